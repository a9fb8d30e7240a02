import Derived.Test.YtfoncpamepepmaaC29
import Derived.Test.YtfoncpamepepmaaVxZ
set_option linter.unusedSimpArgs false
set_option linter.unusedVariables false
namespace Go.Proofs.Ar
open Go.Vx
abbrev B := List UInt8
theorem dt {p : Prop} [Decidable p] (h : p) : decide p = true := decide_eq_true h
theorem df {p : Prop} [Decidable p] (h : ¬ p) : decide p = false := decide_eq_false h
theorem hm : (maxLen : Int) ≤ 9223372036854775807 := by decide
theorem mL : 100000 ≤ maxLen := by decide
theorem get_ex {α : Type} {l : List α} {i : Nat} (h : i < l.length) : ∃ x, l[i]? = some x := ⟨_, List.getElem?_eq_getElem h⟩
theorem getM_at {α β : Type} {l : List α} {f : α → β} {i : Nat} {x : α} {g : β → Prop} (h : l[i]? = some x) (hk : g (f x)) : getA (l.map f) (i : Int).toNat g :=
  getA_iff.2 ⟨f x, by simp [h], hk⟩
theorem getM_nat {α β : Type} {l : List α} {f : α → β} {i : Nat} {x : α} {g : β → Prop} (h : l[i]? = some x) (hk : g (f x)) : getA (l.map f) i g :=
  getA_iff.2 ⟨f x, by simp [h], hk⟩
theorem drop_at {α : Type} {l : List α} {i : Nat} {x : α} (h : l[i]? = some x) : l.drop i = x :: l.drop (i + 1) := by
  obtain ⟨h1, h2⟩ := List.getElem?_eq_some_iff.1 h
  rw [List.drop_eq_getElem_cons h1, h2]
theorem drop_end {α : Type} {l : List α} {i : Nat} (h : l.length ≤ i) : l.drop i = [] := List.drop_eq_nil_of_le h
theorem take_at {α : Type} {l : List α} {i : Nat} {x : α} (h : l[i]? = some x) : l.take (i + 1) = l.take i ++ [x] := by
  obtain ⟨h1, h2⟩ := List.getElem?_eq_some_iff.1 h
  rw [List.take_succ_eq_append_getElem h1, h2]
theorem take_end {α : Type} {l : List α} {i : Nat} (h : l.length ≤ i) : l.take i = l := List.take_of_length_le h
theorem kpL_refl {m : Nat} {rows : Go.Vx.Rows} {fr : List V} (h : fr.all (hB m) = true) : kpL m rows fr fr := by
  induction fr with
  | nil => trivial
  | cons x l ih =>
    simp only [List.all_cons, Bool.and_eq_true] at h
    exact ⟨.same _ h.1, ih h.2⟩
def iD (x : Int) : List D := [.int .i64 x]
def sD (s : B) : List D := [.str s]
abbrev Sl := Bool × List B × List Int × B
def slD (s : Sl) : List D := [.bool s.1, .sl 1 (s.2.1.map sD), .sl 1 (s.2.2.1.map iD), .str s.2.2.2]
def stD (l : List Sl) : List D := [.sl 4 (l.map slD)]
abbrev slV (s : Sl) : V := .agg [.d (.bool s.1), .d (.sl 1 (s.2.1.map sD)), .d (.sl 1 (s.2.2.1.map iD)), .d (.str s.2.2.2)]
abbrev stV (l : List Sl) : V := .d (.sl 4 (l.map slD))
abbrev llV (l : List (List Sl)) : V := .d (.sl 1 (l.map stD))
def okS (s : Sl) : Prop := s.2.1.length ≤ 10 ∧ s.2.2.1.length ≤ 10
theorem sn_all {rows : Go.Vx.Rows} {sz h n : Nat} {es : List (List D)} (hrow : Go.Vx.rowAt rows h = .live sz (es.map (·.map .d))) (hn : n = es.length) (hsz : ∀ e ∈ es, e.length = sz) : Snap rows (.osl sz h n 0 n) (.d (.sl sz es)) :=
  sn_osl (es := es) hrow hn.symm (by omega) hsz (by rw [List.drop_zero, List.take_of_length_le (by omega)])
theorem szs {l : List B} : ∀ e ∈ l.map sD, e.length = 1 := fun e he => by obtain ⟨t, _, rfl⟩ := List.mem_map.1 he; rfl
theorem szi {l : List Int} : ∀ e ∈ l.map iD, e.length = 1 := fun e he => by obtain ⟨t, _, rfl⟩ := List.mem_map.1 he; rfl
theorem szl {l : List Sl} : ∀ e ∈ l.map slD, e.length = 4 := fun e he => by obtain ⟨t, _, rfl⟩ := List.mem_map.1 he; rfl
theorem szt {l : List (List Sl)} : ∀ e ∈ l.map stD, e.length = 1 := fun e he => by obtain ⟨t, _, rfl⟩ := List.mem_map.1 he; rfl
theorem t43 (l : List B) (hl : l.length ≤ 10) : CallP Try.prog 43 [.d (.sl 1 (l.map sD))] (.d (.sl 1 (l.map sD))) := by
  refine go43 ac43 rfl ?_
  cases l with
  | nil =>
    simp only [vx, vz, Nat.reduceAdd, Nat.reduceSub, Nat.reduceMul, Nat.reduceLeDiff, Nat.reduceLT, Nat.reduceEqDiff, Nat.reduceBEq, Int.reduceToNat, Int.reduceNeg, Int.reduceEq, Int.reduceNe, Int.reduceLE, Int.reduceLT, reduceCtorEq, ↓reduceIte, ac43]
    exact ⟨by unfold maxBytes; omega, sn_all (es := []) rfl rfl (by simp)⟩
  | cons x l =>
    simp only [vx, vz, Nat.reduceAdd, Nat.reduceSub, Nat.reduceMul, Nat.reduceLeDiff, Nat.reduceLT, Nat.reduceEqDiff, Nat.reduceBEq, Int.reduceToNat, Int.reduceNeg, Int.reduceEq, Int.reduceNe, Int.reduceLE, Int.reduceLT, reduceCtorEq, ↓reduceIte, ac43]
    simp only [List.length_cons] at hl
    exact ⟨by unfold maxBytes; omega, sn_all (es := (x :: l).map sD) rfl (by simp) szs⟩
theorem t44 (l : List Int) (hl : l.length ≤ 10) : CallP Try.prog 44 [.d (.sl 1 (l.map iD))] (.d (.sl 1 (l.map iD))) := by
  refine go44 ac44 rfl ?_
  cases l with
  | nil =>
    simp only [vx, vz, Nat.reduceAdd, Nat.reduceSub, Nat.reduceMul, Nat.reduceLeDiff, Nat.reduceLT, Nat.reduceEqDiff, Nat.reduceBEq, Int.reduceToNat, Int.reduceNeg, Int.reduceEq, Int.reduceNe, Int.reduceLE, Int.reduceLT, reduceCtorEq, ↓reduceIte, ac44]
    exact ⟨by unfold maxBytes; omega, sn_all (es := []) rfl rfl (by simp)⟩
  | cons x l =>
    simp only [vx, vz, Nat.reduceAdd, Nat.reduceSub, Nat.reduceMul, Nat.reduceLeDiff, Nat.reduceLT, Nat.reduceEqDiff, Nat.reduceBEq, Int.reduceToNat, Int.reduceNeg, Int.reduceEq, Int.reduceNe, Int.reduceLE, Int.reduceLT, reduceCtorEq, ↓reduceIte, ac44]
    simp only [List.length_cons] at hl
    exact ⟨by unfold maxBytes; omega, sn_all (es := (x :: l).map iD) rfl (by simp) szi⟩
theorem t34 (s : Sl) (ok : okS s) : CallP Try.prog 34 [slV s] (slV s) := by
  refine go34 ac34 rfl ?_
  simp only [vx, vz, Nat.reduceAdd, Nat.reduceSub, Nat.reduceMul, Nat.reduceLeDiff, Nat.reduceLT, Nat.reduceEqDiff, Nat.reduceBEq, Int.reduceToNat, Int.reduceNeg, Int.reduceEq, Int.reduceNe, Int.reduceLE, Int.reduceLT, reduceCtorEq, ↓reduceIte, ac34]
  refine call_p rfl (t43 s.2.1 ok.1) ?_
  simp only [vx, vz, Nat.reduceAdd, Nat.reduceSub, Nat.reduceMul, Nat.reduceLeDiff, Nat.reduceLT, Nat.reduceEqDiff, Nat.reduceBEq, Int.reduceToNat, Int.reduceNeg, Int.reduceEq, Int.reduceNe, Int.reduceLE, Int.reduceLT, reduceCtorEq, ↓reduceIte]
  refine call_p rfl (t44 s.2.2.1 ok.2) ?_
  simp only [vx, vz, Nat.reduceAdd, Nat.reduceSub, Nat.reduceMul, Nat.reduceLeDiff, Nat.reduceLT, Nat.reduceEqDiff, Nat.reduceBEq, Int.reduceToNat, Int.reduceNeg, Int.reduceEq, Int.reduceNe, Int.reduceLE, Int.reduceLT, reduceCtorEq, ↓reduceIte]
  exact ⟨.d _, .d _⟩
abbrev lnP (p : List Sl × Nat) : V := .d (.ptr [.sl 4 (p.1.map slD), .int .i64 p.2])
def finS (p : List Sl × Nat) : Bool := decide (p.1.length ≤ p.2)
theorem t29 (p : List Sl × Nat) : CallP Try.prog 29 [lnP p] (.d (.bool (finS p))) := by
  refine go29 ac29 rfl ?_
  simp only [vx, vz, Nat.reduceAdd, Nat.reduceSub, Nat.reduceMul, Nat.reduceLeDiff, Nat.reduceLT, Nat.reduceEqDiff, Nat.reduceBEq, Int.reduceToNat, Int.reduceNeg, Int.reduceEq, Int.reduceNe, Int.reduceLE, Int.reduceLT, reduceCtorEq, ↓reduceIte, ac29]
  refine c_quiet rfl ?_
  simp only [vx, vz, Nat.reduceAdd, Nat.reduceSub, Nat.reduceMul, Nat.reduceLeDiff, Nat.reduceLT, Nat.reduceEqDiff, Nat.reduceBEq, Int.reduceToNat, Int.reduceNeg, Int.reduceEq, Int.reduceNe, Int.reduceLE, Int.reduceLT, reduceCtorEq, ↓reduceIte]
  exact decide_eq_decide.2 Int.ofNat_le
def busyS (p : List Sl × Nat) : Bool := match p.1[p.2]? with
  | none => false
  | some s => !s.1
theorem t33 (p : List Sl × Nat) : CallP Try.prog 33 [lnP p] (.d (.bool (busyS p))) := by
  refine go33 ac33 rfl ?_
  simp only [vx, vz, Nat.reduceAdd, Nat.reduceSub, Nat.reduceMul, Nat.reduceLeDiff, Nat.reduceLT, Nat.reduceEqDiff, Nat.reduceBEq, Int.reduceToNat, Int.reduceNeg, Int.reduceEq, Int.reduceNe, Int.reduceLE, Int.reduceLT, reduceCtorEq, ↓reduceIte, ac33]
  refine c_quiet rfl ?_
  simp only [vx, vz, Nat.reduceAdd, Nat.reduceSub, Nat.reduceMul, Nat.reduceLeDiff, Nat.reduceLT, Nat.reduceEqDiff, Nat.reduceBEq, Int.reduceToNat, Int.reduceNeg, Int.reduceEq, Int.reduceNe, Int.reduceLE, Int.reduceLT, reduceCtorEq, ↓reduceIte]
  refine call_p rfl (t29 p) ?_
  simp only [vx, vz, Nat.reduceAdd, Nat.reduceSub, Nat.reduceMul, Nat.reduceLeDiff, Nat.reduceLT, Nat.reduceEqDiff, Nat.reduceBEq, Int.reduceToNat, Int.reduceNeg, Int.reduceEq, Int.reduceNe, Int.reduceLE, Int.reduceLT, reduceCtorEq, ↓reduceIte]
  cases hf : finS p with
  | true =>
    have : p.1[p.2]? = none := List.getElem?_eq_none (by simpa [finS] using hf)
    simp only [vx, vz, Nat.reduceAdd, Nat.reduceSub, Nat.reduceMul, Nat.reduceLeDiff, Nat.reduceLT, Nat.reduceEqDiff, Nat.reduceBEq, Int.reduceToNat, Int.reduceNeg, Int.reduceEq, Int.reduceNe, Int.reduceLE, Int.reduceLT, reduceCtorEq, ↓reduceIte, busyS, this]
  | false =>
    obtain ⟨x, hx⟩ := get_ex (l := p.1) (i := p.2) (by simpa [finS] using hf)
    simp only [vx, vz, Nat.reduceAdd, Nat.reduceSub, Nat.reduceMul, Nat.reduceLeDiff, Nat.reduceLT, Nat.reduceEqDiff, Nat.reduceBEq, Int.reduceToNat, Int.reduceNeg, Int.reduceEq, Int.reduceNe, Int.reduceLE, Int.reduceLT, reduceCtorEq, ↓reduceIte]
    refine ⟨by have := (List.getElem?_eq_some_iff.1 hx).1; omega, by have := (List.getElem?_eq_some_iff.1 hx).1; omega, getM_nat hx ?_⟩
    simp only [vx, vz, Nat.reduceAdd, Nat.reduceSub, Nat.reduceMul, Nat.reduceLeDiff, Nat.reduceLT, Nat.reduceEqDiff, Nat.reduceBEq, Int.reduceToNat, Int.reduceNeg, Int.reduceEq, Int.reduceNe, Int.reduceLE, Int.reduceLT, reduceCtorEq, ↓reduceIte, slD, busyS, hx]
theorem kpL_set {m : Nat} {rows : Go.Vx.Rows} {fr : List V} {i : Nat} {v v' : V} (h1 : fr[i]? = some v) (h2 : Snap (hiRows m rows) v v') (h3 : (fr.eraseIdx i).all (hB m) = true) : kpL m rows fr (fr.set i v') := by
  induction fr generalizing i with
  | nil => simp at h1
  | cons x l ih =>
    cases i with
    | zero => simp at h1; subst h1; exact ⟨.snap _ _ h2, kpL_refl (by simpa using h3)⟩
    | succ i =>
      simp only [List.eraseIdx_cons_succ, List.all_cons, Bool.and_eq_true] at h3
      exact ⟨.same _ h3.1, ih (by simpa using h1) h3.2⟩
theorem sn_ptr {rows : Go.Vx.Rows} {h : Nat} {cs : List D} {sz : Nat} (hrow : rows[h]? = some (.live sz [cs.map .d])) (hl : cs.length ≤ sz) : Snap rows (.optr sz h 1 0 0) (.d (.ptr cs)) :=
  .optr sz h 1 0 0 _ _ cs hrow rfl rfl (by omega) fun j v y h1 h2 => by
    rw [Nat.zero_add, List.getElem?_map, h2] at h1
    injection h1 with h1; subst h1
    exact .d _
theorem t30 (p : List Sl × Nat) (x : Sl) (hx : p.1[p.2]? = some x) (hp : p.2 < 1000) (ok : okS x) : CallM Try.prog 30 [.optr 2 0 1 0 0] 2 [[.d (.sl 4 (p.1.map slD)), .d (.int .i64 p.2)]] (slV x) [[.d (.sl 4 (p.1.map slD)), .d (.int .i64 (p.2 + 1 : Nat))]] := by
  have hl := (List.getElem?_eq_some_iff.1 hx).1
  refine gm30 ac30 rfl ?_
  simp only [vx, vz, Nat.reduceAdd, Nat.reduceSub, Nat.reduceMul, Nat.reduceLeDiff, Nat.reduceLT, Nat.reduceEqDiff, Nat.reduceBEq, Int.reduceToNat, Int.reduceNeg, Int.reduceEq, Int.reduceNe, Int.reduceLE, Int.reduceLT, reduceCtorEq, ↓reduceIte, ac30]
  refine c_draw ?_
  simp only [vx, vz, Nat.reduceAdd, Nat.reduceSub, Nat.reduceMul, Nat.reduceLeDiff, Nat.reduceLT, Nat.reduceEqDiff, Nat.reduceBEq, Int.reduceToNat, Int.reduceNeg, Int.reduceEq, Int.reduceNe, Int.reduceLE, Int.reduceLT, reduceCtorEq, ↓reduceIte]
  repeat (refine d_k rfl rfl ?_; simp only [vx, vz, Nat.reduceAdd, Nat.reduceSub, Nat.reduceMul, Nat.reduceLeDiff, Nat.reduceLT, Nat.reduceEqDiff, Nat.reduceBEq, Int.reduceToNat, Int.reduceNeg, Int.reduceEq, Int.reduceNe, Int.reduceLE, Int.reduceLT, reduceCtorEq, ↓reduceIte])
  refine ⟨by omega, by omega, getM_nat hx ?_⟩
  simp only [vx, vz, Nat.reduceAdd, Nat.reduceSub, Nat.reduceMul, Nat.reduceLeDiff, Nat.reduceLT, Nat.reduceEqDiff, Nat.reduceBEq, Int.reduceToNat, Int.reduceNeg, Int.reduceEq, Int.reduceNe, Int.reduceLE, Int.reduceLT, reduceCtorEq, ↓reduceIte, slD]
  repeat (refine d_k rfl rfl ?_; simp only [vx, vz, Nat.reduceAdd, Nat.reduceSub, Nat.reduceMul, Nat.reduceLeDiff, Nat.reduceLT, Nat.reduceEqDiff, Nat.reduceBEq, Int.reduceToNat, Int.reduceNeg, Int.reduceEq, Int.reduceNe, Int.reduceLE, Int.reduceLT, reduceCtorEq, ↓reduceIte])
  refine call_p rfl (t34 x ok) ?_
  simp only [vx, vz, Nat.reduceAdd, Nat.reduceSub, Nat.reduceMul, Nat.reduceLeDiff, Nat.reduceLT, Nat.reduceEqDiff, Nat.reduceBEq, Int.reduceToNat, Int.reduceNeg, Int.reduceEq, Int.reduceNe, Int.reduceLE, Int.reduceLT, reduceCtorEq, ↓reduceIte]
  rw [wr_i64 (by omega) (by omega)]
  refine retM_r ⟨mkF 23 [(2, .d (.ptr (slD x)))], [.live 2 [[.d (.sl 4 (p.1.map slD)), .d (.int .i64 (p.2 + 1 : Nat))]]]⟩ (Weak.trans (B := ⟨mkF 23 [(2, .optr 4 1 1 0 0)], _⟩) (weak_any ?_) (weak_frz2 1 (by omega) ⟨.same _ (by simp [rowB, hB]), trivial⟩ (kpL_set (i := 2) rfl (sn_ptr (cs := slD x) rfl (Nat.le_refl 4)) rfl))) rfl ?_
  · simp only [vx, vz, Nat.reduceAdd, Nat.reduceSub, Nat.reduceMul, Nat.reduceLeDiff, Nat.reduceLT, Nat.reduceEqDiff, Nat.reduceBEq, Int.reduceToNat, Int.reduceNeg, Int.reduceEq, Int.reduceNe, Int.reduceLE, Int.reduceLT, reduceCtorEq, ↓reduceIte]
    try trivial
  · refine ⟨Nat.le_refl 4, ?_⟩
    rfl
end Go.Proofs.Ar

namespace Go.Proofs.Ar
open Go.Vx
def laneR (p : List Sl × Nat) : RowS := .live 2 [[.d (.sl 4 (p.1.map slD)), .d (.int .i64 p.2)]]
def ptC (i : Nat) (j : Nat) : List V := if j < i then [.optr 2 (j + 2) 1 0 0] else [.d .nilp]
def ptR (i n : Nat) : RowS := .live 1 ((List.range n).map (ptC i))
def ln0 (s : List Sl) : List Sl × Nat := (s, 0)
def okL (l : List (List Sl)) : Prop := l.length ≤ 20 ∧ ∀ s ∈ l, s.length ≤ 20 ∧ ∀ x ∈ s, okS x
theorem set_snoc {α : Type} {l : List α} {x y : α} {i : Nat} (h : i = l.length) : (l ++ [x]).set i y = l ++ [y] := by
  subst h; simp
theorem pt_set {i n : Nat} (h : i < n) : ((List.range n).map (ptC i)).set i [V.optr 2 (i + 2) 1 0 0] = (List.range n).map (ptC (i + 1)) := by
  refine List.ext_getElem (by simp) fun j h1 h2 => ?_
  simp only [List.length_set, List.length_map, List.length_range] at h1
  rw [List.getElem_set]
  simp only [List.getElem_map, List.getElem_range, ptC]
  split
  · next e => subst e; rw [if_pos (by omega)]
  · next e =>
    by_cases hj : j < i
    · rw [if_pos hj, if_pos (by omega)]
    · rw [if_neg hj, if_neg (by omega)]
theorem rowAt_app {A B : Go.Vx.Rows} {i j : Nat} (h : i = A.length + j) : Go.Vx.rowAt (A ++ B) i = Go.Vx.rowAt B j := by
  subst h
  induction A with
  | nil => simp
  | cons a A ih => rw [List.length_cons, show A.length + 1 + j = (A.length + j) + 1 by omega]; exact ih
theorem setAt_app {A B : Go.Vx.Rows} {i j : Nat} {r : RowS} (h : i = A.length + j) : setAt (A ++ B) i r = A ++ setAt B j r := by
  subst h
  induction A with
  | nil => simp
  | cons a A ih => rw [List.length_cons, show A.length + 1 + j = (A.length + j) + 1 by omega]; exact congrArg (a :: ·) ih
theorem rowAt_lt {A B : Go.Vx.Rows} {i : Nat} (h : i < A.length) : Go.Vx.rowAt (A ++ B) i = Go.Vx.rowAt A i := by
  induction A generalizing i with
  | nil => simp at h
  | cons a A ih => cases i with
    | zero => rfl
    | succ i => exact ih (by simpa using h)
theorem rowAt_map {α : Type} {f : α → RowS} {l : List α} {i : Nat} {x : α} (h : l[i]? = some x) : Go.Vx.rowAt (l.map f) i = f x := by
  induction l generalizing i with
  | nil => simp at h
  | cons a l ih => cases i with
    | zero => simp at h; subst h; rfl
    | succ i => exact ih (by simpa using h)
def longS (l : List (List Sl)) : Nat := l.foldl (fun n s => max n s.length) 0
theorem t27 (l : List (List Sl)) (hl : okL l) {K : V → Go.Vx.Rows → Prop} (hK : K (.osl 1 1 l.length 0 l.length) (.live 4 [] :: ptR l.length l.length :: (l.map ln0).map laneR)) : InlP Try.prog 27 [llV l] [.live 4 []] K := by
  have hm := hm
  have hl1 := hl.1
  refine gi27 ac27 rfl ?_
  simp only [vx, vz, Nat.reduceAdd, Nat.reduceSub, Nat.reduceMul, Nat.reduceLeDiff, Nat.reduceLT, Nat.reduceEqDiff, Nat.reduceBEq, Int.reduceToNat, Int.reduceNeg, Int.reduceEq, Int.reduceNe, Int.reduceLE, Int.reduceLT, reduceCtorEq, ↓reduceIte, ac27]
  refine ⟨by omega, by omega, by omega, by omega, ?_⟩
  have hz : List.replicate l.length [V.d .nilp] = (List.range l.length).map (ptC 0) := by
    refine List.ext_getElem (by simp) fun j h1 h2 => ?_
    simp [ptC]
  rw [hz]
  refine loop_st (fun i : Nat => ⟨mkF 24 [(3, .osl 1 1 l.length 0 l.length), (9, llV l), (10, .d (.int .i64 l.length)), (11, .d (.int .i64 i))], .live 4 [] :: ptR i l.length :: ((l.take i).map ln0).map laneR⟩) (fun i => i ≤ l.length) (fun i => l.length - i) 0 (weak_any (by simp only [vx, vz, Nat.reduceAdd, Nat.reduceSub, Nat.reduceMul, Nat.reduceLeDiff, Nat.reduceLT, Nat.reduceEqDiff, Nat.reduceBEq, Int.reduceToNat, Int.reduceNeg, Int.reduceEq, Int.reduceNe, Int.reduceLE, Int.reduceLT, reduceCtorEq, ↓reduceIte]; try trivial)) (by omega) (fun i hi => ?_)
  have htl : (l.take i).length = i := by rw [List.length_take]; omega
  simp only [vx, vz, Nat.reduceAdd, Nat.reduceSub, Nat.reduceMul, Nat.reduceLeDiff, Nat.reduceLT, Nat.reduceEqDiff, Nat.reduceBEq, Int.reduceToNat, Int.reduceNeg, Int.reduceEq, Int.reduceNe, Int.reduceLE, Int.reduceLT, reduceCtorEq, ↓reduceIte, ptR]
  refine cond_split (fun hc => ?_) (fun hc => ?_)
  · simp only [decide_eq_true_eq] at hc
    obtain ⟨x, hx⟩ := get_ex (l := l) (i := i) (by omega)
    simp only [vx, vz, Nat.reduceAdd, Nat.reduceSub, Nat.reduceMul, Nat.reduceLeDiff, Nat.reduceLT, Nat.reduceEqDiff, Nat.reduceBEq, Int.reduceToNat, Int.reduceNeg, Int.reduceEq, Int.reduceNe, Int.reduceLE, Int.reduceLT, reduceCtorEq, ↓reduceIte]
    refine ⟨by omega, by omega, getM_at hx ?_⟩
    simp only [vx, vz, Nat.reduceAdd, Nat.reduceSub, Nat.reduceMul, Nat.reduceLeDiff, Nat.reduceLT, Nat.reduceEqDiff, Nat.reduceBEq, Int.reduceToNat, Int.reduceNeg, Int.reduceEq, Int.reduceNe, Int.reduceLE, Int.reduceLT, reduceCtorEq, ↓reduceIte]
    simp only [vx, vz, Nat.reduceAdd, Nat.reduceSub, Nat.reduceMul, Nat.reduceLeDiff, Nat.reduceLT, Nat.reduceEqDiff, Nat.reduceBEq, Int.reduceToNat, Int.reduceNeg, Int.reduceEq, Int.reduceNe, Int.reduceLE, Int.reduceLT, reduceCtorEq, ↓reduceIte, stD, htl]
    refine ⟨rowAt_app (j := 0) (by simp; omega), by omega, by omega, by simp, by simp, getM_nat (x := i) (List.getElem?_range (by omega)) ?_⟩
    rw [setAt_app (j := 0) (by simp; omega)]
    simp only [vx, vz, Nat.reduceAdd, Nat.reduceSub, Nat.reduceMul, Nat.reduceLeDiff, Nat.reduceLT, Nat.reduceEqDiff, Nat.reduceBEq, Int.reduceToNat, Int.reduceNeg, Int.reduceEq, Int.reduceNe, Int.reduceLE, Int.reduceLT, reduceCtorEq, ↓reduceIte, ptC, Nat.lt_irrefl]
    rw [pt_set (by omega)]
    have e : ((l.take (i + 1)).map ln0).map laneR = ((l.take i).map ln0).map laneR ++ [.live 2 [[V.d (.sl 4 (x.map slD)), V.d (.int .i64 0)]]] := by
      rw [take_at hx, List.map_append, List.map_append]; rfl
    refine ls_n (i + 1) (by omega) ?_ (by omega)
    simp only [e]
    refine weak_any ?_
    simp only [vx, vz, Nat.reduceAdd, Nat.reduceSub, Nat.reduceMul, Nat.reduceLeDiff, Nat.reduceLT, Nat.reduceEqDiff, Nat.reduceBEq, Int.reduceToNat, Int.reduceNeg, Int.reduceEq, Int.reduceNe, Int.reduceLE, Int.reduceLT, reduceCtorEq, ↓reduceIte]
    rw [wr_i64 (by omega) (by omega)]
    trivial
  · simp only [decide_eq_false_iff_not] at hc
    obtain rfl : i = l.length := by omega
    rw [take_end (Nat.le_refl _)]
    simp only [vx, vz, Nat.reduceAdd, Nat.reduceSub, Nat.reduceMul, Nat.reduceLeDiff, Nat.reduceLT, Nat.reduceEqDiff, Nat.reduceBEq, Int.reduceToNat, Int.reduceNeg, Int.reduceEq, Int.reduceNe, Int.reduceLE, Int.reduceLT, reduceCtorEq, ↓reduceIte]
    exact hK
theorem t28 (l : List (List Sl)) (hl : okL l) : CallP Try.prog 28 [llV l] (.d (.int .i64 (longS l))) := by
  have hm := hm
  have hl1 := hl.1
  refine go28 ac28 rfl ?_
  simp only [vx, vz, Nat.reduceAdd, Nat.reduceSub, Nat.reduceMul, Nat.reduceLeDiff, Nat.reduceLT, Nat.reduceEqDiff, Nat.reduceBEq, Int.reduceToNat, Int.reduceNeg, Int.reduceEq, Int.reduceNe, Int.reduceLE, Int.reduceLT, reduceCtorEq, ↓reduceIte, ac28]
  refine loop_st (fun i : Nat => ⟨mkF 18 [(3, .d (.int .i64 (longS (l.take i)))), (6, llV l), (7, .d (.int .i64 l.length)), (8, .d (.int .i64 i))], []⟩) (fun i => i ≤ l.length) (fun i => l.length - i) 0 (weak_any (by simp only [vx, vz, Nat.reduceAdd, Nat.reduceSub, Nat.reduceMul, Nat.reduceLeDiff, Nat.reduceLT, Nat.reduceEqDiff, Nat.reduceBEq, Int.reduceToNat, Int.reduceNeg, Int.reduceEq, Int.reduceNe, Int.reduceLE, Int.reduceLT, reduceCtorEq, ↓reduceIte]; try trivial)) (by omega) (fun i hi => ?_)
  simp only [vx, vz, Nat.reduceAdd, Nat.reduceSub, Nat.reduceMul, Nat.reduceLeDiff, Nat.reduceLT, Nat.reduceEqDiff, Nat.reduceBEq, Int.reduceToNat, Int.reduceNeg, Int.reduceEq, Int.reduceNe, Int.reduceLE, Int.reduceLT, reduceCtorEq, ↓reduceIte]
  refine cond_split (fun hc => ?_) (fun hc => ?_)
  · simp only [decide_eq_true_eq] at hc
    obtain ⟨x, hx⟩ := get_ex (l := l) (i := i) (by omega)
    have e : longS (l.take (i + 1)) = max (longS (l.take i)) x.length := by rw [take_at hx, longS, List.foldl_append]; rfl
    simp only [vx, vz, Nat.reduceAdd, Nat.reduceSub, Nat.reduceMul, Nat.reduceLeDiff, Nat.reduceLT, Nat.reduceEqDiff, Nat.reduceBEq, Int.reduceToNat, Int.reduceNeg, Int.reduceEq, Int.reduceNe, Int.reduceLE, Int.reduceLT, reduceCtorEq, ↓reduceIte]
    refine ⟨by omega, by omega, getM_at hx ?_⟩
    simp only [vx, vz, Nat.reduceAdd, Nat.reduceSub, Nat.reduceMul, Nat.reduceLeDiff, Nat.reduceLT, Nat.reduceEqDiff, Nat.reduceBEq, Int.reduceToNat, Int.reduceNeg, Int.reduceEq, Int.reduceNe, Int.reduceLE, Int.reduceLT, reduceCtorEq, ↓reduceIte]
    simp only [vx, vz, Nat.reduceAdd, Nat.reduceSub, Nat.reduceMul, Nat.reduceLeDiff, Nat.reduceLT, Nat.reduceEqDiff, Nat.reduceBEq, Int.reduceToNat, Int.reduceNeg, Int.reduceEq, Int.reduceNe, Int.reduceLE, Int.reduceLT, reduceCtorEq, ↓reduceIte, stD]
    refine ls_n (i + 1) (by omega) (weak_any ?_) (by omega)
    simp only [vx, vz, Nat.reduceAdd, Nat.reduceSub, Nat.reduceMul, Nat.reduceLeDiff, Nat.reduceLT, Nat.reduceEqDiff, Nat.reduceBEq, Int.reduceToNat, Int.reduceNeg, Int.reduceEq, Int.reduceNe, Int.reduceLE, Int.reduceLT, reduceCtorEq, ↓reduceIte]
    rw [wr_i64 (by omega) (by omega), e]
    refine ⟨?_, by omega⟩
    split <;> omega
  · simp only [decide_eq_false_iff_not] at hc
    rw [take_end (by omega)]
    simp only [vx, vz, Nat.reduceAdd, Nat.reduceSub, Nat.reduceMul, Nat.reduceLeDiff, Nat.reduceLT, Nat.reduceEqDiff, Nat.reduceBEq, Int.reduceToNat, Int.reduceNeg, Int.reduceEq, Int.reduceNe, Int.reduceLE, Int.reduceLT, reduceCtorEq, ↓reduceIte]
end Go.Proofs.Ar

namespace Go.Proofs.Ar
open Go.Vx
def wkAt : Nat → AC → AC
  | 0, a => .wk a
  | n + 1, .seq a b => .seq a (wkAt n b)
  | _, a => a
theorem weak_frzA {b0 : Nat} {fr fr' : List V} {A T A' : Go.Vx.Rows} (hm : b0 ≤ A.length) (hA : rowsK A.length (A ++ T) A A') (hk : kpL A.length (A ++ T) fr fr') : Weak b0 ⟨fr, A ++ T⟩ ⟨fr', A'⟩ :=
  weak_frz2 A.length hm (by rw [List.take_left]; exact hA) hk
theorem rowsK_same {m : Nat} {rows l : Go.Vx.Rows} (h : ∀ r ∈ l, rowB m r) : rowsK m rows l l := by
  induction l with
  | nil => trivial
  | cons r l ih => exact ⟨.same _ (h r (by simp)), ih fun x hx => h x (by simp [hx])⟩
theorem laneR_B {m : Nat} {ls : List (List Sl × Nat)} : ∀ r ∈ ls.map laneR, rowB m r := fun r hr => by
  obtain ⟨p, _, rfl⟩ := List.mem_map.1 hr
  simp [laneR, rowB, hB]
theorem ptR_B {m n : Nat} (h : n + 2 ≤ m) : rowB m (ptR n n) := by
  intro e he v hv
  obtain ⟨j, hj, rfl⟩ := List.mem_map.1 he
  have hj := List.mem_range.1 hj
  rw [ptC, if_pos hj] at hv
  simp at hv; subst hv
  simp [hB]; omega
theorem row_lane {r0 r1 : RowS} {ls : List (List Sl × Nat)} {T : Go.Vx.Rows} {i : Nat} {p : List Sl × Nat} (h : ls[i]? = some p) : (r0 :: r1 :: (ls.map laneR ++ T))[i + 2]? = some (laneR p) := by
  have hi := (List.getElem?_eq_some_iff.1 h).1
  simp only [List.getElem?_cons_succ]
  rw [List.getElem?_append_left (by simpa using hi), List.getElem?_map, h]; rfl
theorem row_lane0 {r0 r1 : RowS} {ls : List (List Sl × Nat)} {i : Nat} {p : List Sl × Nat} (h : ls[i]? = some p) : (r0 :: r1 :: ls.map laneR)[i + 2]? = some (laneR p) := by
  have := row_lane (r0 := r0) (r1 := r1) (T := []) h
  rwa [List.append_nil] at this
theorem snapOk_lane {rows : Go.Vx.Rows} {h : Nat} {p : List Sl × Nat} (hr : rows[h]? = some (laneR p)) : snapOk rows (.optr 2 h 1 0 0) := by
  refine ⟨_, _, hr, rfl, rfl, by simp, ?_⟩
  intro v hv
  simp at hv
  rcases hv with rfl | rfl <;> rfl
theorem snapV_lane {rows : Go.Vx.Rows} {h : Nat} {p : List Sl × Nat} (hr : rows[h]? = some (laneR p)) : snapV rows (.optr 2 h 1 0 0) = lnP p := by
  simp only [snapV, snapC, hr, laneR]
  rfl
def roundS (l : List (List Sl)) (k : Nat) : List Sl := l.filterMap fun s => s[k]?
def outT (l : List (List Sl)) (k : Nat) : List Sl := (List.range k).flatMap (roundS l)
def lnK (k : Nat) (s : List Sl) : List Sl × Nat := (s, min k s.length)
def lnI (l : List (List Sl)) (k i : Nat) : List (List Sl × Nat) := (l.take i).map (lnK (k + 1)) ++ (l.drop i).map (lnK k)
theorem lnI_len {l : List (List Sl)} {k i : Nat} (h : i ≤ l.length) : (lnI l k i).length = l.length := by simp [lnI]; omega
theorem lnI_zero {l : List (List Sl)} {k : Nat} : lnI l k 0 = l.map (lnK k) := by simp [lnI]
theorem lnI_end {l : List (List Sl)} {k i : Nat} (h : l.length ≤ i) : lnI l k i = l.map (lnK (k + 1)) := by rw [lnI, take_end h, drop_end h]; simp
theorem lnI_at {l : List (List Sl)} {k i : Nat} {s : List Sl} (h : l[i]? = some s) : (lnI l k i)[i]? = some (lnK k s) := by
  have hi := (List.getElem?_eq_some_iff.1 h).1
  rw [lnI, drop_at h, List.getElem?_append_right (by simp; omega)]
  simp; rw [Nat.min_eq_left (by omega), Nat.sub_self]; rfl
theorem lnI_set {l : List (List Sl)} {k i : Nat} {s : List Sl} (h : l[i]? = some s) : (lnI l k i).set i (lnK (k + 1) s) = lnI l k (i + 1) := by
  have hi := (List.getElem?_eq_some_iff.1 h).1
  rw [lnI, lnI, drop_at h, take_at h, List.map_append, List.map_cons, List.set_append_right _ _ (by simp; omega)]
  have : i - ((l.take i).map (lnK (k + 1))).length = 0 := by simp; omega
  rw [this, List.set_cons_zero, List.append_assoc]; rfl
theorem lnI_skip {l : List (List Sl)} {k i : Nat} {s : List Sl} (h : l[i]? = some s) (hs : s.length ≤ k) : lnI l k (i + 1) = lnI l k i := by
  rw [← lnI_set h, show lnK (k + 1) s = lnK k s by rw [lnK, lnK, Nat.min_eq_right (by omega), Nat.min_eq_right (by omega)]]
  refine List.ext_getElem? fun j => ?_
  rw [List.getElem?_set]
  split
  · next e => subst e; rw [lnI_at h]; rw [lnI_len (by have := (List.getElem?_eq_some_iff.1 h).1; omega), if_pos (List.getElem?_eq_some_iff.1 h).1]
  · rfl
theorem round_snoc {l : List (List Sl)} {k i : Nat} {s : List Sl} (h : l[i]? = some s) : roundS (l.take (i + 1)) k = roundS (l.take i) k ++ (match s[k]? with | some x => [x] | none => []) := by
  rw [take_at h, roundS, roundS, List.filterMap_append]
  cases hk : s[k]? <;> simp [hk]
theorem outT_succ {l : List (List Sl)} {k : Nat} : outT l (k + 1) = outT l k ++ roundS l k := by
  rw [outT, List.range_succ, List.flatMap_append]; simp [outT]
theorem long_mem {l : List (List Sl)} {n : Nat} {s : List Sl} (h : s ∈ l) : s.length ≤ l.foldl (fun n s => max n s.length) n ∧ n ≤ l.foldl (fun n s => max n s.length) n := by
  induction l generalizing n with
  | nil => cases h
  | cons x l ih =>
    rw [List.foldl_cons]
    have hmono : ∀ (l : List (List Sl)) (n : Nat), n ≤ l.foldl (fun n s => max n s.length) n := by
      intro l
      induction l with
      | nil => intro n; exact Nat.le_refl _
      | cons y l ih => intro n; rw [List.foldl_cons]; have := ih (max n y.length); omega
    have h2 := hmono l (max n x.length)
    rcases List.mem_cons.1 h with rfl | h
    · exact ⟨by omega, by omega⟩
    · have := ih (n := max n x.length) h
      exact ⟨this.1, by omega⟩
theorem long_le {l : List (List Sl)} (h : okL l) : longS l ≤ 20 := by
  have : ∀ (l : List (List Sl)) (n : Nat), n ≤ 20 → (∀ s ∈ l, s.length ≤ 20) → l.foldl (fun n s => max n s.length) n ≤ 20 := by
    intro l
    induction l with
    | nil => intro n hn _; exact hn
    | cons x l ih =>
      intro n hn hl
      rw [List.foldl_cons]
      have := hl x (by simp)
      exact ih _ (by omega) (fun s hs => hl s (by simp [hs]))
  exact this l 0 (by omega) (fun s hs => (h.2 s hs).1)
theorem round_len {l : List (List Sl)} {k i : Nat} : (roundS (l.take i) k).length ≤ l.length := by
  refine Nat.le_trans (List.length_filterMap_le _ _) ?_
  rw [List.length_take]; omega
theorem outT_len {l : List (List Sl)} (h : okL l) : ∀ k, (outT l k).length ≤ 20 * k := by
  intro k
  induction k with
  | zero => simp [outT]
  | succ k ih =>
    rw [outT_succ, List.length_append]
    have := round_len (l := l) (k := k) (i := l.length)
    rw [take_end (Nat.le_refl _)] at this
    have := h.1
    omega
theorem dE {a b : D} : dataE [[.d a, .d b]] := by
  intro e he v hv
  simp at he; subst he
  simp at hv
  rcases hv with rfl | rfl <;> rfl
theorem setAt_lane {ls : List (List Sl × Nat)} {B : Go.Vx.Rows} {i k : Nat} {s : List Sl} (h : i < ls.length) : setAt (ls.map laneR ++ B) i (.live 2 [[.d (.sl 4 (s.map slD)), .d (.int .i64 (k : Nat))]]) = (ls.set i (s, k)).map laneR ++ B := by
  induction ls generalizing i with
  | nil => simp at h
  | cons a ls ih => cases i with
    | zero => rfl
    | succ i => exact congrArg (laneR a :: ·) (ih (by simpa using h))
theorem fin_lnK {k : Nat} {s : List Sl} : finS (lnK k s) = decide (s.length ≤ k) := decide_eq_decide.2 (by
  show s.length ≤ min k s.length ↔ s.length ≤ k
  omega)
theorem t11 (l : List (List Sl)) (hl : okL l) : CallP Try.prog 11 [llV l] (stV (outT l (longS l))) := by
  have hm := hm
  have hl1 := hl.1
  refine go11 (wkAt 2 (AC.at (AC.look [false, true, false]) [1, 1, 0] ac11)) rfl ?_
  simp only [vx, vz, Nat.reduceAdd, Nat.reduceSub, Nat.reduceMul, Nat.reduceLeDiff, Nat.reduceLT, Nat.reduceEqDiff, Nat.reduceBEq, Int.reduceToNat, Int.reduceNeg, Int.reduceEq, Int.reduceNe, Int.reduceLE, Int.reduceLT, reduceCtorEq, ↓reduceIte, ac11, wkAt, AC.at, AC.look]
  refine wk_in ⟨mkF 30 [(0, llV l), (3, .osl 4 0 0 0 0)], [.live 4 []]⟩ (Weak.trans (weak_nils 3 4 rfl) (weak_any (by simp only [vx, vz, Nat.reduceAdd, Nat.reduceSub, Nat.reduceMul, Nat.reduceLeDiff, Nat.reduceLT, Nat.reduceEqDiff, Nat.reduceBEq, Int.reduceToNat, Int.reduceNeg, Int.reduceEq, Int.reduceNe, Int.reduceLE, Int.reduceLT, reduceCtorEq, ↓reduceIte]; try trivial))) ?_
  simp only [vx, vz, Nat.reduceAdd, Nat.reduceSub, Nat.reduceMul, Nat.reduceLeDiff, Nat.reduceLT, Nat.reduceEqDiff, Nat.reduceBEq, Int.reduceToNat, Int.reduceNeg, Int.reduceEq, Int.reduceNe, Int.reduceLE, Int.reduceLT, reduceCtorEq, ↓reduceIte]
  refine call_i (t27 l hl ?_)
  simp only [vx, vz, Nat.reduceAdd, Nat.reduceSub, Nat.reduceMul, Nat.reduceLeDiff, Nat.reduceLT, Nat.reduceEqDiff, Nat.reduceBEq, Int.reduceToNat, Int.reduceNeg, Int.reduceEq, Int.reduceNe, Int.reduceLE, Int.reduceLT, reduceCtorEq, ↓reduceIte]
  refine call_p rfl (t28 l hl) ?_
  simp only [vx, vz, Nat.reduceAdd, Nat.reduceSub, Nat.reduceMul, Nat.reduceLeDiff, Nat.reduceLT, Nat.reduceEqDiff, Nat.reduceBEq, Int.reduceToNat, Int.reduceNeg, Int.reduceEq, Int.reduceNe, Int.reduceLE, Int.reduceLT, reduceCtorEq, ↓reduceIte]
  have hlg := long_le hl
  have e0 : (l.map ln0).map laneR = (l.map (lnK 0)).map laneR := by
    congr 1
  rw [e0]
  refine loop_st (fun k : Nat => ⟨mkF 30 [(3, .osl 4 0 (outT l k).length 0 (outT l k).length), (4, .osl 1 1 l.length 0 l.length), (10, .d (.int .i64 (longS l))), (11, .d (.int .i64 k))], .live 4 (((outT l k).map slD).map (·.map .d)) :: ptR l.length l.length :: (l.map (lnK k)).map laneR⟩) (fun k => k ≤ longS l) (fun k => longS l - k) 0 (weak_any (by simp only [vx, vz, Nat.reduceAdd, Nat.reduceSub, Nat.reduceMul, Nat.reduceLeDiff, Nat.reduceLT, Nat.reduceEqDiff, Nat.reduceBEq, Int.reduceToNat, Int.reduceNeg, Int.reduceEq, Int.reduceNe, Int.reduceLE, Int.reduceLT, reduceCtorEq, ↓reduceIte]; try trivial)) (by omega) (fun k hk => ?_)
  simp only [vx, vz, Nat.reduceAdd, Nat.reduceSub, Nat.reduceMul, Nat.reduceLeDiff, Nat.reduceLT, Nat.reduceEqDiff, Nat.reduceBEq, Int.reduceToNat, Int.reduceNeg, Int.reduceEq, Int.reduceNe, Int.reduceLE, Int.reduceLT, reduceCtorEq, ↓reduceIte]
  refine cond_split (fun hc => ?_) (fun hc => ?_)
  · simp only [decide_eq_true_eq] at hc
    have hok := outT_len hl k
    simp only [vx, vz, Nat.reduceAdd, Nat.reduceSub, Nat.reduceMul, Nat.reduceLeDiff, Nat.reduceLT, Nat.reduceEqDiff, Nat.reduceBEq, Int.reduceToNat, Int.reduceNeg, Int.reduceEq, Int.reduceNe, Int.reduceLE, Int.reduceLT, reduceCtorEq, ↓reduceIte, ptR, List.length_range]
    refine loop_st (fun i : Nat => ⟨mkF 30 [(3, .osl 4 0 (outT l k ++ roundS (l.take i) k).length 0 (outT l k ++ roundS (l.take i) k).length), (4, .osl 1 1 l.length 0 l.length), (10, .d (.int .i64 (longS l))), (11, .d (.int .i64 k)), (13, .osl 1 1 l.length 0 l.length), (14, .d (.int .i64 l.length)), (15, .d (.int .i64 i))], .live 4 (((outT l k ++ roundS (l.take i) k).map slD).map (·.map .d)) :: ptR l.length l.length :: (lnI l k i).map laneR⟩) (fun i => i ≤ l.length) (fun i => l.length - i) 0 (by
      have e : outT l k ++ roundS (l.take 0) k = outT l k := by simp [roundS]
      simp only [e, lnI_zero]
      exact weak_any (by simp only [vx, vz, Nat.reduceAdd, Nat.reduceSub, Nat.reduceMul, Nat.reduceLeDiff, Nat.reduceLT, Nat.reduceEqDiff, Nat.reduceBEq, Int.reduceToNat, Int.reduceNeg, Int.reduceEq, Int.reduceNe, Int.reduceLE, Int.reduceLT, reduceCtorEq, ↓reduceIte]; try trivial)) (by omega) (fun i hi => ?_)
    have hrl := round_len (l := l) (k := k) (i := i)
    have hll := lnI_len (l := l) (k := k) hi
    simp only [vx, vz, Nat.reduceAdd, Nat.reduceSub, Nat.reduceMul, Nat.reduceLeDiff, Nat.reduceLT, Nat.reduceEqDiff, Nat.reduceBEq, Int.reduceToNat, Int.reduceNeg, Int.reduceEq, Int.reduceNe, Int.reduceLE, Int.reduceLT, reduceCtorEq, ↓reduceIte, ptR, List.length_range]
    refine cond_split (fun hc2 => ?_) (fun hc2 => ?_)
    · simp only [decide_eq_true_eq] at hc2
      obtain ⟨s, hs⟩ := get_ex (l := l) (i := i) (by omega)
      have hsl := hl.2 s (List.mem_of_getElem? hs)
      have hat := lnI_at (k := k) hs
      simp only [vx, vz, Nat.reduceAdd, Nat.reduceSub, Nat.reduceMul, Nat.reduceLeDiff, Nat.reduceLT, Nat.reduceEqDiff, Nat.reduceBEq, Int.reduceToNat, Int.reduceNeg, Int.reduceEq, Int.reduceNe, Int.reduceLE, Int.reduceLT, reduceCtorEq, ↓reduceIte]
      refine ⟨by omega, by omega, by simp, by simp, getM_nat (x := i) (List.getElem?_range (by omega)) ?_⟩
      simp only [vx, vz, Nat.reduceAdd, Nat.reduceSub, Nat.reduceMul, Nat.reduceLeDiff, Nat.reduceLT, Nat.reduceEqDiff, Nat.reduceBEq, Int.reduceToNat, Int.reduceNeg, Int.reduceEq, Int.reduceNe, Int.reduceLE, Int.reduceLT, reduceCtorEq, ↓reduceIte, ptC]
      rw [if_pos (by omega)]
      simp only [vx, vz, Nat.reduceAdd, Nat.reduceSub, Nat.reduceMul, Nat.reduceLeDiff, Nat.reduceLT, Nat.reduceEqDiff, Nat.reduceBEq, Int.reduceToNat, Int.reduceNeg, Int.reduceEq, Int.reduceNe, Int.reduceLE, Int.reduceLT, reduceCtorEq, ↓reduceIte]
      refine call_s (v := .d (.bool (finS (lnK k s)))) ?_ rfl ?_ ?_
      · intro x hx
        simp only [List.nil_append, List.append_nil, List.mem_cons, List.not_mem_nil, or_false] at hx
        subst hx
        exact snapOk_lane (row_lane0 hat)
      · simp only [List.nil_append, List.append_nil, List.map_cons, List.map_nil, snapV_lane (row_lane0 hat)]
        exact t29 _
      simp only [vx, vz, Nat.reduceAdd, Nat.reduceSub, Nat.reduceMul, Nat.reduceLeDiff, Nat.reduceLT, Nat.reduceEqDiff, Nat.reduceBEq, Int.reduceToNat, Int.reduceNeg, Int.reduceEq, Int.reduceNe, Int.reduceLE, Int.reduceLT, reduceCtorEq, ↓reduceIte]
      cases hf : finS (lnK k s) with
      | true =>
        have hf : s.length ≤ k := by rw [fin_lnK] at hf; exact of_decide_eq_true hf
        have er : roundS (l.take (i + 1)) k = roundS (l.take i) k := by rw [round_snoc hs, List.getElem?_eq_none hf]; simp
        simp only [vx, vz, Nat.reduceAdd, Nat.reduceSub, Nat.reduceMul, Nat.reduceLeDiff, Nat.reduceLT, Nat.reduceEqDiff, Nat.reduceBEq, Int.reduceToNat, Int.reduceNeg, Int.reduceEq, Int.reduceNe, Int.reduceLE, Int.reduceLT, reduceCtorEq, ↓reduceIte]
        refine ls_n (i + 1) (by omega) ?_ (by omega)
        simp only [er, lnI_skip hs hf]
        refine weak_any ?_
        simp only [vx, vz, Nat.reduceAdd, Nat.reduceSub, Nat.reduceMul, Nat.reduceLeDiff, Nat.reduceLT, Nat.reduceEqDiff, Nat.reduceBEq, Int.reduceToNat, Int.reduceNeg, Int.reduceEq, Int.reduceNe, Int.reduceLE, Int.reduceLT, reduceCtorEq, ↓reduceIte]
        rw [wr_i64 (by omega) (by omega)]
        trivial
      | false =>
        have hf : k < s.length := by rw [fin_lnK] at hf; have := of_decide_eq_false hf; omega
        obtain ⟨x, hx⟩ := get_ex (l := s) (i := k) hf
        have er : roundS (l.take (i + 1)) k = roundS (l.take i) k ++ [x] := by rw [round_snoc hs, hx]
        have hmin : min k s.length = k := by omega
        have hmin2 : min (k + 1) s.length = k + 1 := by omega
        simp only [vx, vz, Nat.reduceAdd, Nat.reduceSub, Nat.reduceMul, Nat.reduceLeDiff, Nat.reduceLT, Nat.reduceEqDiff, Nat.reduceBEq, Int.reduceToNat, Int.reduceNeg, Int.reduceEq, Int.reduceNe, Int.reduceLE, Int.reduceLT, reduceCtorEq, ↓reduceIte]
        have hat' : (lnI l k i)[i]? = some (s, k) := by rw [hat, lnK, hmin]
        refine call_m (i + 2) (vals0 := [.optr 2 0 1 0 0]) (es' := [[.d (.sl 4 (s.map slD)), .d (.int .i64 (k + 1 : Nat))]]) rfl rfl (by simp [hAll, hOf1]) (row_lane hat') dE dE rfl (t30 (s, k) x hx (by simp only; omega) (hsl.2 x (List.mem_of_getElem? hx))) ?_
        rw [show renH (i + 2) (slV x) = slV x from rfl]
        have hset : (lnI l k i).set i (s, k + 1) = lnI l k (i + 1) := by
          rw [← lnI_set hs, lnK, hmin2]
        have hll2 := lnI_len (l := l) (k := k) (i := i + 1) (by omega)
        simp only [vx, vz, Nat.reduceAdd, Nat.reduceSub, Nat.reduceMul, Nat.reduceLeDiff, Nat.reduceLT, Nat.reduceEqDiff, Nat.reduceBEq, Int.reduceToNat, Int.reduceNeg, Int.reduceEq, Int.reduceNe, Int.reduceLE, Int.reduceLT, reduceCtorEq, ↓reduceIte]
        rw [setAt_lane (by omega), hset]
        have r0 : ∀ B : Go.Vx.Rows, Go.Vx.rowAt ((lnI l k (i + 1)).map laneR ++ B) (lnI l k i).length = Go.Vx.rowAt B 0 := fun B => rowAt_app (by simp; omega)
        have r1 : ∀ B : Go.Vx.Rows, Go.Vx.rowAt ((lnI l k (i + 1)).map laneR ++ B) ((lnI l k i).length + 1) = Go.Vx.rowAt B 1 := fun B => rowAt_app (by simp; omega)
        have s0 : ∀ (B : Go.Vx.Rows) (r : RowS), setAt ((lnI l k (i + 1)).map laneR ++ B) (lnI l k i).length r = (lnI l k (i + 1)).map laneR ++ setAt B 0 r := fun B r => setAt_app (by simp; omega)
        have s1 : ∀ (B : Go.Vx.Rows) (r : RowS), setAt ((lnI l k (i + 1)).map laneR ++ B) ((lnI l k i).length + 1) r = (lnI l k (i + 1)).map laneR ++ setAt B 1 r := fun B r => setAt_app (by simp; omega)
        simp only [vx, vz, Nat.reduceAdd, Nat.reduceSub, Nat.reduceMul, Nat.reduceLeDiff, Nat.reduceLT, Nat.reduceEqDiff, Nat.reduceBEq, Int.reduceToNat, Int.reduceNeg, Int.reduceEq, Int.reduceNe, Int.reduceLE, Int.reduceLT, reduceCtorEq, ↓reduceIte, r0, r1, s0, s1]
        refine ⟨by unfold maxBytes; omega, ?_⟩
        refine ls_n (i + 1) (by omega) (Weak.trans (weak_any ?_) (weak_frzA (A := _ :: _ :: (lnI l k (i + 1)).map laneR) (Nat.zero_le _) ⟨?_, .same _ (ptR_B (n := l.length) (by simp; omega)), rowsK_same laneR_B⟩ (kpL_refl ?_))) (by omega)
        · simp only [vx, vz, Nat.reduceAdd, Nat.reduceSub, Nat.reduceMul, Nat.reduceLeDiff, Nat.reduceLT, Nat.reduceEqDiff, Nat.reduceBEq, Int.reduceToNat, Int.reduceNeg, Int.reduceEq, Int.reduceNe, Int.reduceLE, Int.reduceLT, reduceCtorEq, ↓reduceIte]
          rw [wr_i64 (by omega) (by omega), er, List.length_append, Nat.add_assoc]
          exact ⟨rfl, rfl⟩
        · show RowK _ _ _ (.live 4 (((outT l k ++ roundS (l.take (i + 1)) k).map slD).map (·.map .d)))
          have e3 : (outT l k ++ roundS (l.take (i + 1)) k).map slD = (outT l k ++ roundS (l.take i) k).map slD ++ [slD x] := by
            rw [er, ← List.append_assoc, List.map_append]; rfl
          rw [e3]
          exact rowK_snoc (x := slD x) ⟨.same _ rfl, .same _ rfl, .same _ rfl, .same _ rfl, trivial⟩
        · simp [hB]
    · simp only [decide_eq_false_iff_not] at hc2
      have e1 : outT l k ++ roundS (l.take i) k = outT l (k + 1) := by rw [take_end (by omega), outT_succ]
      simp only [vx, vz, Nat.reduceAdd, Nat.reduceSub, Nat.reduceMul, Nat.reduceLeDiff, Nat.reduceLT, Nat.reduceEqDiff, Nat.reduceBEq, Int.reduceToNat, Int.reduceNeg, Int.reduceEq, Int.reduceNe, Int.reduceLE, Int.reduceLT, reduceCtorEq, ↓reduceIte]
      refine ls_n (k + 1) (by omega) ?_ (by omega)
      rw [lnI_end (by omega)]
      rw [e1]
      refine weak_any ?_
      simp only [vx, vz, Nat.reduceAdd, Nat.reduceSub, Nat.reduceMul, Nat.reduceLeDiff, Nat.reduceLT, Nat.reduceEqDiff, Nat.reduceBEq, Int.reduceToNat, Int.reduceNeg, Int.reduceEq, Int.reduceNe, Int.reduceLE, Int.reduceLT, reduceCtorEq, ↓reduceIte]
      rw [wr_i64 (by omega) (by omega), ← e1, List.length_append]
      exact ⟨rfl, rfl⟩
  · simp only [decide_eq_false_iff_not] at hc
    obtain rfl : k = longS l := by omega
    simp only [vx, vz, Nat.reduceAdd, Nat.reduceSub, Nat.reduceMul, Nat.reduceLeDiff, Nat.reduceLT, Nat.reduceEqDiff, Nat.reduceBEq, Int.reduceToNat, Int.reduceNeg, Int.reduceEq, Int.reduceNe, Int.reduceLE, Int.reduceLT, reduceCtorEq, ↓reduceIte]
    exact sn_all (es := (outT l (longS l)).map slD) rfl (by simp) szl
end Go.Proofs.Ar

namespace Go.Proofs.Ar
open Go.Vx
def fidx {α : Type} (q : α → Bool) : List α → Nat → Int
  | [], _ => -1
  | x :: l, i => if q x then (i : Int) else fidx q l (i + 1)
theorem fidx_spec {α : Type} {q : α → Bool} {l : List α} {k : Nat} : (fidx q l k = -1 ∧ ∀ x ∈ l, q x = false) ∨ ∃ i x, fidx q l k = ((k + i : Nat) : Int) ∧ l[i]? = some x ∧ q x = true := by
  induction l generalizing k with
  | nil => exact .inl ⟨rfl, by simp⟩
  | cons x l ih =>
    rw [fidx]
    split
    · next h => exact .inr ⟨0, x, rfl, rfl, h⟩
    · next h =>
      rcases ih (k := k + 1) with ⟨h1, h2⟩ | ⟨i, y, h1, h2, h3⟩
      · exact .inl ⟨h1, fun z hz => by
          rcases List.mem_cons.1 hz with rfl | hz
          · simpa using h
          · exact h2 z hz⟩
      · exact .inr ⟨i + 1, y, by rw [h1]; congr 1; omega, by simpa using h2, h3⟩
def lnD (p : List Sl × Nat) : List D := [.ptr [.sl 4 (p.1.map slD), .int .i64 p.2]]
theorem t32 (ls : List (List Sl × Nat)) (hl : ls.length ≤ maxLen) : CallP Try.prog 32 [.d (.sl 1 (ls.map lnD)), .fn (.func 33) [] []] (.d (.int .i64 (fidx busyS ls 0))) := by
  have hm := hm
  refine go32 ac32 rfl ?_
  simp only [vx, vz, Nat.reduceAdd, Nat.reduceSub, Nat.reduceMul, Nat.reduceLeDiff, Nat.reduceLT, Nat.reduceEqDiff, Nat.reduceBEq, Int.reduceToNat, Int.reduceNeg, Int.reduceEq, Int.reduceNe, Int.reduceLE, Int.reduceLT, reduceCtorEq, ↓reduceIte, ac32]
  refine loop_st (fun i : Nat => ⟨mkF 19 [(0, .d (.sl 1 (ls.map lnD))), (1, .fn (.func 33) [] []), (7, .d (.int .i64 ls.length)), (8, .d (.int .i64 i))], []⟩) (fun i => i ≤ ls.length ∧ fidx busyS ls 0 = fidx busyS (ls.drop i) i) (fun i => ls.length - i) 0 (weak_any (by simp only [vx, vz, Nat.reduceAdd, Nat.reduceSub, Nat.reduceMul, Nat.reduceLeDiff, Nat.reduceLT, Nat.reduceEqDiff, Nat.reduceBEq, Int.reduceToNat, Int.reduceNeg, Int.reduceEq, Int.reduceNe, Int.reduceLE, Int.reduceLT, reduceCtorEq, ↓reduceIte]; try trivial)) ⟨by omega, by rw [List.drop_zero]⟩ (fun i hi => ?_)
  obtain ⟨h1, h2⟩ := hi
  simp only [vx, vz, Nat.reduceAdd, Nat.reduceSub, Nat.reduceMul, Nat.reduceLeDiff, Nat.reduceLT, Nat.reduceEqDiff, Nat.reduceBEq, Int.reduceToNat, Int.reduceNeg, Int.reduceEq, Int.reduceNe, Int.reduceLE, Int.reduceLT, reduceCtorEq, ↓reduceIte]
  refine cond_split (fun hc => ?_) (fun hc => ?_)
  · simp only [decide_eq_true_eq] at hc
    obtain ⟨x, hx⟩ := get_ex (l := ls) (i := i) (by omega)
    rw [drop_at hx, fidx] at h2
    simp only [vx, vz, Nat.reduceAdd, Nat.reduceSub, Nat.reduceMul, Nat.reduceLeDiff, Nat.reduceLT, Nat.reduceEqDiff, Nat.reduceBEq, Int.reduceToNat, Int.reduceNeg, Int.reduceEq, Int.reduceNe, Int.reduceLE, Int.reduceLT, reduceCtorEq, ↓reduceIte]
    refine ⟨by omega, by omega, getM_at hx ?_⟩
    simp only [vx, vz, Nat.reduceAdd, Nat.reduceSub, Nat.reduceMul, Nat.reduceLeDiff, Nat.reduceLT, Nat.reduceEqDiff, Nat.reduceBEq, Int.reduceToNat, Int.reduceNeg, Int.reduceEq, Int.reduceNe, Int.reduceLE, Int.reduceLT, reduceCtorEq, ↓reduceIte]
    simp only [vx, vz, Nat.reduceAdd, Nat.reduceSub, Nat.reduceMul, Nat.reduceLeDiff, Nat.reduceLT, Nat.reduceEqDiff, Nat.reduceBEq, Int.reduceToNat, Int.reduceNeg, Int.reduceEq, Int.reduceNe, Int.reduceLE, Int.reduceLT, reduceCtorEq, ↓reduceIte, lnD]
    refine call_p rfl (t33 x) ?_
    simp only [vx, vz, Nat.reduceAdd, Nat.reduceSub, Nat.reduceMul, Nat.reduceLeDiff, Nat.reduceLT, Nat.reduceEqDiff, Nat.reduceBEq, Int.reduceToNat, Int.reduceNeg, Int.reduceEq, Int.reduceNe, Int.reduceLE, Int.reduceLT, reduceCtorEq, ↓reduceIte]
    refine cond_split (fun hc2 => ?_) (fun hc2 => ?_)
    · rw [if_pos hc2] at h2
      simp only [vx, vz, Nat.reduceAdd, Nat.reduceSub, Nat.reduceMul, Nat.reduceLeDiff, Nat.reduceLT, Nat.reduceEqDiff, Nat.reduceBEq, Int.reduceToNat, Int.reduceNeg, Int.reduceEq, Int.reduceNe, Int.reduceLE, Int.reduceLT, reduceCtorEq, ↓reduceIte, h2]
    · rw [if_neg (by rw [hc2]; decide)] at h2
      simp only [vx, vz, Nat.reduceAdd, Nat.reduceSub, Nat.reduceMul, Nat.reduceLeDiff, Nat.reduceLT, Nat.reduceEqDiff, Nat.reduceBEq, Int.reduceToNat, Int.reduceNeg, Int.reduceEq, Int.reduceNe, Int.reduceLE, Int.reduceLT, reduceCtorEq, ↓reduceIte]
      refine ls_n (i + 1) (by omega) (weak_any ?_) ⟨by omega, h2⟩
      simp only [vx, vz, Nat.reduceAdd, Nat.reduceSub, Nat.reduceMul, Nat.reduceLeDiff, Nat.reduceLT, Nat.reduceEqDiff, Nat.reduceBEq, Int.reduceToNat, Int.reduceNeg, Int.reduceEq, Int.reduceNe, Int.reduceLE, Int.reduceLT, reduceCtorEq, ↓reduceIte]
      rw [wr_i64 (by omega) (by omega)]
      trivial
  · simp only [decide_eq_false_iff_not] at hc
    rw [drop_end (by omega), fidx] at h2
    simp only [vx, vz, Nat.reduceAdd, Nat.reduceSub, Nat.reduceMul, Nat.reduceLeDiff, Nat.reduceLT, Nat.reduceEqDiff, Nat.reduceBEq, Int.reduceToNat, Int.reduceNeg, Int.reduceEq, Int.reduceNe, Int.reduceLE, Int.reduceLT, reduceCtorEq, ↓reduceIte, h2]
def adv (p : List Sl × Nat) : List Sl × Nat := (p.1, p.2 + 1)
def incS (p : List Sl × Nat) : List Sl × Nat := if p.2 < p.1.length then adv p else p
def idl : Sl := (true, [], [], [])
def opn (ls : List (List Sl × Nat)) : Bool := ls.any fun p => !finS p
def frS : Nat → List (List Sl × Nat) → List Sl
  | 0, _ => []
  | n + 1, ls =>
    if 0 ≤ fidx busyS ls 0 then
      match ls[(fidx busyS ls 0).toNat]? with
      | some p => match p.1[p.2]? with
        | some x => x :: frS n (ls.set (fidx busyS ls 0).toNat (adv p))
        | none => []
      | none => []
    else if opn ls then idl :: frS n (ls.map incS) else []
def rem : List (List Sl × Nat) → Nat
  | [] => 0
  | p :: l => (p.1.length - p.2) + rem l
theorem rem_set {ls : List (List Sl × Nat)} {i : Nat} {p q : List Sl × Nat} (h : ls[i]? = some p) : rem (ls.set i q) + (p.1.length - p.2) = rem ls + (q.1.length - q.2) := by
  induction ls generalizing i with
  | nil => simp at h
  | cons a ls ih => cases i with
    | zero => simp at h; subst h; simp [rem]; omega
    | succ i => have := ih (i := i) (by simpa using h); simp [rem]; omega
theorem rem_inc {ls : List (List Sl × Nat)} : rem (ls.map incS) ≤ rem ls ∧ (opn ls = true → rem (ls.map incS) < rem ls) := by
  induction ls with
  | nil => simp [rem, opn]
  | cons a ls ih =>
    have e : (incS a).1.length - (incS a).2 ≤ a.1.length - a.2 ∧ (finS a = false → (incS a).1.length - (incS a).2 < a.1.length - a.2) := by
      rw [incS]
      split
      · simp only [adv]; exact ⟨by omega, fun _ => by omega⟩
      · next h => exact ⟨Nat.le_refl _, fun hf => absurd (of_decide_eq_false hf) (by omega)⟩
    simp only [List.map_cons, rem]
    refine ⟨by omega, fun ho => ?_⟩
    rw [opn, List.any_cons, Bool.or_eq_true] at ho
    rcases ho with ho | ho
    · have := e.2 (by simpa using ho); omega
    · have := ih.2 ho; omega
theorem busy_some {p : List Sl × Nat} (h : busyS p = true) : ∃ x, p.1[p.2]? = some x ∧ x.1 = false := by
  rw [busyS] at h
  split at h
  · cases h
  · next s e => exact ⟨s, e, by simpa using h⟩
theorem fr_busy {n : Nat} {ls : List (List Sl × Nat)} {i : Nat} {p : List Sl × Nat} {x : Sl} (hi : fidx busyS ls 0 = (i : Nat)) (hp : ls[i]? = some p) (hx : p.1[p.2]? = some x) : frS (n + 1) ls = x :: frS n (ls.set i (adv p)) := by
  rw [frS, hi, if_pos (by omega), Int.toNat_natCast, hp]
  simp only [hx]
theorem fr_idle {n : Nat} {ls : List (List Sl × Nat)} (hi : fidx busyS ls 0 = -1) : frS (n + 1) ls = if opn ls then idl :: frS n (ls.map incS) else [] := by
  rw [frS, hi, if_neg (by omega)]
theorem fr_done {n : Nat} {ls : List (List Sl × Nat)} (hi : fidx busyS ls 0 = -1) (ho : opn ls = false) : frS n ls = [] := by
  cases n with
  | zero => rfl
  | succ n => rw [fr_idle hi, ho]; rfl
theorem rem_busy {ls : List (List Sl × Nat)} {i : Nat} {p : List Sl × Nat} {x : Sl} (hp : ls[i]? = some p) (hx : p.1[p.2]? = some x) : rem (ls.set i (adv p)) + 1 = rem ls := by
  have h1 := rem_set (q := adv p) hp
  have h2 := (List.getElem?_eq_some_iff.1 hx).1
  simp only [adv] at h1 ⊢
  omega
def incI (ls : List (List Sl × Nat)) (i : Nat) : List (List Sl × Nat) := (ls.take i).map incS ++ ls.drop i
theorem incI_len {ls : List (List Sl × Nat)} {i : Nat} (h : i ≤ ls.length) : (incI ls i).length = ls.length := by simp [incI]; omega
theorem incI_zero {ls : List (List Sl × Nat)} : incI ls 0 = ls := by simp [incI]
theorem incI_end {ls : List (List Sl × Nat)} {i : Nat} (h : ls.length ≤ i) : incI ls i = ls.map incS := by rw [incI, take_end h, drop_end h]; simp
theorem incI_at {ls : List (List Sl × Nat)} {i : Nat} {p : List Sl × Nat} (h : ls[i]? = some p) : (incI ls i)[i]? = some p := by
  have hi := (List.getElem?_eq_some_iff.1 h).1
  rw [incI, drop_at h, List.getElem?_append_right (by simp; omega)]
  simp; rw [Nat.min_eq_left (by omega), Nat.sub_self]; rfl
theorem incI_set {ls : List (List Sl × Nat)} {i : Nat} {p : List Sl × Nat} (h : ls[i]? = some p) : (incI ls i).set i (incS p) = incI ls (i + 1) := by
  have hi := (List.getElem?_eq_some_iff.1 h).1
  rw [incI, incI, drop_at h, take_at h, List.map_append, List.set_append_right _ _ (by simp; omega)]
  have : i - ((ls.take i).map incS).length = 0 := by simp; omega
  rw [this, List.set_cons_zero, List.append_assoc]; rfl
theorem set_same {α : Type} {l : List α} {i : Nat} {x : α} (h : l[i]? = some x) : l.set i x = l := by
  refine List.ext_getElem? fun j => ?_
  rw [List.getElem?_set]
  split
  · next e => subst e; rw [h, if_pos (List.getElem?_eq_some_iff.1 h).1]
  · rfl
end Go.Proofs.Ar

namespace Go.Proofs.Ar
open Go.Vx
theorem sn_lanes {out : RowS} {ls : List (List Sl × Nat)} : Snap (out :: ptR ls.length ls.length :: ls.map laneR) (.osl 1 1 ls.length 0 ls.length) (.d (.sl 1 (ls.map lnD))) := by
  refine .osl 1 1 ls.length 0 ls.length ((List.range ls.length).map (ptC ls.length)) (ls.map lnD) rfl (by simp) (by omega) (by simp) (fun x hx => by obtain ⟨p, _, rfl⟩ := List.mem_map.1 hx; rfl) ?_
  intro i j e x v y h1 h2 h3 h4
  rw [Nat.zero_add] at h1
  have hi : i < ls.length := by
    have := (List.getElem?_eq_some_iff.1 h2).1
    simpa using this
  obtain ⟨p, hp⟩ := get_ex (l := ls) hi
  rw [List.getElem?_map, List.getElem?_range hi] at h1
  rw [List.getElem?_map, hp] at h2
  injection h1 with h1; injection h2 with h2
  subst h1 h2
  rw [ptC, if_pos hi] at h3
  cases j with
  | succ j => simp at h3
  | zero =>
    simp [lnD] at h3 h4
    subst h3 h4
    exact sn_ptr (cs := [.sl 4 (p.1.map slD), .int .i64 p.2]) (row_lane0 hp) (Nat.le_refl 2)
def okI (l : List (List Sl)) (ls : List (List Sl × Nat)) : Prop := ls.map (·.1) = l
theorem okI_len {l : List (List Sl)} {ls : List (List Sl × Nat)} (h : okI l ls) : ls.length = l.length := by rw [← h]; simp
theorem okI_mem {l : List (List Sl)} {ls : List (List Sl × Nat)} (h : okI l ls) {i : Nat} {p : List Sl × Nat} (hp : ls[i]? = some p) : l[i]? = some p.1 := by rw [← h]; simp [hp]
theorem okI_set {l : List (List Sl)} {ls : List (List Sl × Nat)} (h : okI l ls) {i : Nat} {p : List Sl × Nat} (hp : ls[i]? = some p) : okI l (ls.set i (adv p)) := by
  rw [okI, List.map_set, set_same]
  · exact h
  · simp [hp, adv]
theorem okI_inc {l : List (List Sl)} {ls : List (List Sl × Nat)} (h : okI l ls) : okI l (ls.map incS) := by
  rw [okI, List.map_map, ← h]
  refine List.map_congr_left fun p _ => ?_
  simp only [Function.comp, incS]
  split <;> rfl
theorem rem_le {l : List (List Sl)} (hl : okL l) : rem (l.map ln0) ≤ 400 := by
  have : ∀ (l : List (List Sl)), (∀ s ∈ l, s.length ≤ 20) → rem (l.map ln0) ≤ 20 * l.length := by
    intro l
    induction l with
    | nil => simp [rem]
    | cons s l ih =>
      intro h
      have h1 := h s (by simp)
      have h2 := ih (fun x hx => h x (by simp [hx]))
      simp only [List.map_cons, rem, ln0, List.length_cons]
      omega
  have h2 := this l (fun s hs => (hl.2 s hs).1)
  have := hl.1
  omega
def firS (l : List (List Sl)) : List Sl := frS (rem (l.map ln0)) (l.map ln0)
theorem t14 (l : List (List Sl)) (hl : okL l) : CallP Try.prog 14 [llV l] (stV (firS l)) := by
  have hm := hm
  have hmL := mL
  have hl1 := hl.1
  have hr0 := rem_le hl
  refine go14 (wkAt 2 (AC.at (AC.look [false, true, false]) [1, 1, 0] (AC.at (AC.look [false, true, false]) [1, 1, 1, 2, 2, 2, 0, 0] ac14))) rfl ?_
  simp only [vx, vz, Nat.reduceAdd, Nat.reduceSub, Nat.reduceMul, Nat.reduceLeDiff, Nat.reduceLT, Nat.reduceEqDiff, Nat.reduceBEq, Int.reduceToNat, Int.reduceNeg, Int.reduceEq, Int.reduceNe, Int.reduceLE, Int.reduceLT, reduceCtorEq, ↓reduceIte, ac14, wkAt, AC.at, AC.look]
  refine wk_in ⟨mkF 47 [(0, llV l), (3, .osl 4 0 0 0 0)], [.live 4 []]⟩ (Weak.trans (weak_nils 3 4 rfl) (weak_any (by simp only [vx, vz, Nat.reduceAdd, Nat.reduceSub, Nat.reduceMul, Nat.reduceLeDiff, Nat.reduceLT, Nat.reduceEqDiff, Nat.reduceBEq, Int.reduceToNat, Int.reduceNeg, Int.reduceEq, Int.reduceNe, Int.reduceLE, Int.reduceLT, reduceCtorEq, ↓reduceIte]; try trivial))) ?_
  simp only [vx, vz, Nat.reduceAdd, Nat.reduceSub, Nat.reduceMul, Nat.reduceLeDiff, Nat.reduceLT, Nat.reduceEqDiff, Nat.reduceBEq, Int.reduceToNat, Int.reduceNeg, Int.reduceEq, Int.reduceNe, Int.reduceLE, Int.reduceLT, reduceCtorEq, ↓reduceIte]
  refine call_i (t27 l hl ?_)
  simp only [vx, vz, Nat.reduceAdd, Nat.reduceSub, Nat.reduceMul, Nat.reduceLeDiff, Nat.reduceLT, Nat.reduceEqDiff, Nat.reduceBEq, Int.reduceToNat, Int.reduceNeg, Int.reduceEq, Int.reduceNe, Int.reduceLE, Int.reduceLT, reduceCtorEq, ↓reduceIte]
  refine loop_st (fun s : List Sl × List (List Sl × Nat) × Nat => ⟨mkF 47 [(3, .osl 4 0 s.1.length 0 s.1.length), (4, .osl 1 1 l.length 0 l.length)], .live 4 ((s.1.map slD).map (·.map .d)) :: ptR l.length l.length :: s.2.1.map laneR⟩) (fun s => okI l s.2.1 ∧ rem s.2.1 ≤ s.2.2 ∧ s.1.length + s.2.2 ≤ 400 ∧ s.1 ++ frS s.2.2 s.2.1 = firS l) (fun s => s.2.2) ([], l.map ln0, rem (l.map ln0)) (weak_any (by simp only [vx, vz, Nat.reduceAdd, Nat.reduceSub, Nat.reduceMul, Nat.reduceLeDiff, Nat.reduceLT, Nat.reduceEqDiff, Nat.reduceBEq, Int.reduceToNat, Int.reduceNeg, Int.reduceEq, Int.reduceNe, Int.reduceLE, Int.reduceLT, reduceCtorEq, ↓reduceIte]; try trivial)) ⟨by simp [okI, ln0, List.map_map, Function.comp_def], by simp, by simpa using hr0, rfl⟩ (fun s hs => ?_)
  obtain ⟨out, ls, n⟩ := s
  obtain ⟨h1, h2, h3, h4⟩ := hs
  simp only at h1 h2 h3 h4
  have hlen := okI_len h1
  rw [← hlen]
  simp only [vx, vz, Nat.reduceAdd, Nat.reduceSub, Nat.reduceMul, Nat.reduceLeDiff, Nat.reduceLT, Nat.reduceEqDiff, Nat.reduceBEq, Int.reduceToNat, Int.reduceNeg, Int.reduceEq, Int.reduceNe, Int.reduceLE, Int.reduceLT, reduceCtorEq, ↓reduceIte]
  refine call_i (inl_scal (vals' := [.d (.sl 1 (ls.map lnD)), .fn (.func 33) [] []]) rfl (fun j x x' hx hx' => ?_) rfl (t32 ls (by omega)) ?_)
  · match j, hx, hx' with
    | 0, hx, hx' => cases hx; cases hx'; exact sn_lanes
    | 1, hx, hx' => cases hx; cases hx'; exact .fn _ [] [] [] [] rfl rfl (by simp) (by simp)
  rcases fidx_spec (q := busyS) (l := ls) (k := 0) with ⟨hi, hno⟩ | ⟨i, p, hi, hp, hb⟩
  · rw [hi]
    simp only [vx, vz, Nat.reduceAdd, Nat.reduceSub, Nat.reduceMul, Nat.reduceLeDiff, Nat.reduceLT, Nat.reduceEqDiff, Nat.reduceBEq, Int.reduceToNat, Int.reduceNeg, Int.reduceEq, Int.reduceNe, Int.reduceLE, Int.reduceLT, reduceCtorEq, ↓reduceIte, ptR, List.length_range]
    refine loop_st (fun i : Nat => ⟨mkF 47 [(3, .osl 4 0 out.length 0 out.length), (4, .osl 1 1 ls.length 0 ls.length), (6, .d (.bool (opn (ls.take i)))), (23, .osl 1 1 ls.length 0 ls.length), (24, .d (.int .i64 ls.length)), (25, .d (.int .i64 i))], .live 4 ((out.map slD).map (·.map .d)) :: ptR ls.length ls.length :: (incI ls i).map laneR⟩) (fun i => i ≤ ls.length) (fun i => ls.length - i) 0 (by
      have e : opn (ls.take 0) = false := by simp [opn]
      simp only [incI_zero, e]
      exact weak_any (by simp only [vx, vz, Nat.reduceAdd, Nat.reduceSub, Nat.reduceMul, Nat.reduceLeDiff, Nat.reduceLT, Nat.reduceEqDiff, Nat.reduceBEq, Int.reduceToNat, Int.reduceNeg, Int.reduceEq, Int.reduceNe, Int.reduceLE, Int.reduceLT, reduceCtorEq, ↓reduceIte]; try trivial)) (by omega) (fun i hi2 => ?_)
    have hil := incI_len (ls := ls) hi2
    simp only [vx, vz, Nat.reduceAdd, Nat.reduceSub, Nat.reduceMul, Nat.reduceLeDiff, Nat.reduceLT, Nat.reduceEqDiff, Nat.reduceBEq, Int.reduceToNat, Int.reduceNeg, Int.reduceEq, Int.reduceNe, Int.reduceLE, Int.reduceLT, reduceCtorEq, ↓reduceIte, ptR, List.length_range]
    refine cond_split (fun hc => ?_) (fun hc => ?_)
    · simp only [decide_eq_true_eq] at hc
      obtain ⟨p, hp⟩ := get_ex (l := ls) (i := i) (by omega)
      have hat := incI_at hp
      have rr : Go.Vx.rowAt ((incI ls i).map laneR) i = laneR p := rowAt_map hat
      have eo : opn (ls.take (i + 1)) = (opn (ls.take i) || !finS p) := by rw [take_at hp, opn, List.any_append]; simp [opn]
      have hpl := (hl.2 p.1 (List.mem_of_getElem? (okI_mem h1 hp))).1
      simp only [vx, vz, Nat.reduceAdd, Nat.reduceSub, Nat.reduceMul, Nat.reduceLeDiff, Nat.reduceLT, Nat.reduceEqDiff, Nat.reduceBEq, Int.reduceToNat, Int.reduceNeg, Int.reduceEq, Int.reduceNe, Int.reduceLE, Int.reduceLT, reduceCtorEq, ↓reduceIte]
      refine ⟨by omega, by omega, by simp, by simp, getM_nat (x := i) (List.getElem?_range (by omega)) ?_⟩
      simp only [vx, vz, Nat.reduceAdd, Nat.reduceSub, Nat.reduceMul, Nat.reduceLeDiff, Nat.reduceLT, Nat.reduceEqDiff, Nat.reduceBEq, Int.reduceToNat, Int.reduceNeg, Int.reduceEq, Int.reduceNe, Int.reduceLE, Int.reduceLT, reduceCtorEq, ↓reduceIte, ptC]
      rw [if_pos (by omega)]
      simp only [vx, vz, Nat.reduceAdd, Nat.reduceSub, Nat.reduceMul, Nat.reduceLeDiff, Nat.reduceLT, Nat.reduceEqDiff, Nat.reduceBEq, Int.reduceToNat, Int.reduceNeg, Int.reduceEq, Int.reduceNe, Int.reduceLE, Int.reduceLT, reduceCtorEq, ↓reduceIte]
      refine call_s (v := .d (.bool (finS p))) ?_ rfl ?_ ?_
      · intro x hx
        simp only [List.nil_append, List.append_nil, List.mem_cons, List.not_mem_nil, or_false] at hx
        subst hx
        exact snapOk_lane (row_lane0 hat)
      · simp only [List.nil_append, List.append_nil, List.map_cons, List.map_nil, snapV_lane (row_lane0 hat)]
        exact t29 _
      simp only [vx, vz, Nat.reduceAdd, Nat.reduceSub, Nat.reduceMul, Nat.reduceLeDiff, Nat.reduceLT, Nat.reduceEqDiff, Nat.reduceBEq, Int.reduceToNat, Int.reduceNeg, Int.reduceEq, Int.reduceNe, Int.reduceLE, Int.reduceLT, reduceCtorEq, ↓reduceIte]
      cases hf : finS p with
      | true =>
        rw [hf, Bool.not_true, Bool.or_false] at eo
        have hge : p.1.length ≤ p.2 := of_decide_eq_true hf
        have hset : incI ls (i + 1) = incI ls i := by
          rw [← incI_set hp, show incS p = p by rw [incS, if_neg (by omega)], set_same hat]
        simp only [vx, vz, Nat.reduceAdd, Nat.reduceSub, Nat.reduceMul, Nat.reduceLeDiff, Nat.reduceLT, Nat.reduceEqDiff, Nat.reduceBEq, Int.reduceToNat, Int.reduceNeg, Int.reduceEq, Int.reduceNe, Int.reduceLE, Int.reduceLT, reduceCtorEq, ↓reduceIte]
        refine ls_n (i + 1) (by omega) ?_ (by omega)
        simp only [eo, hset]
        refine weak_any ?_
        simp only [vx, vz, Nat.reduceAdd, Nat.reduceSub, Nat.reduceMul, Nat.reduceLeDiff, Nat.reduceLT, Nat.reduceEqDiff, Nat.reduceBEq, Int.reduceToNat, Int.reduceNeg, Int.reduceEq, Int.reduceNe, Int.reduceLE, Int.reduceLT, reduceCtorEq, ↓reduceIte]
        rw [wr_i64 (by omega) (by omega)]
        trivial
      | false =>
        rw [hf, Bool.not_false, Bool.or_true] at eo
        have hlt : p.2 < p.1.length := by have := of_decide_eq_false hf; omega
        have hset : (incI ls i).set i (p.1, p.2 + 1) = incI ls (i + 1) := by
          rw [← incI_set hp, show incS p = (p.1, p.2 + 1) by rw [incS, if_pos hlt]; rfl]
        simp only [vx, vz, Nat.reduceAdd, Nat.reduceSub, Nat.reduceMul, Nat.reduceLeDiff, Nat.reduceLT, Nat.reduceEqDiff, Nat.reduceBEq, Int.reduceToNat, Int.reduceNeg, Int.reduceEq, Int.reduceNe, Int.reduceLE, Int.reduceLT, reduceCtorEq, ↓reduceIte, rr, laneR]
        rw [wr_i64 (n := (p.2 : Int) + 1) (by omega) (by omega)]
        have hse := setAt_lane (ls := incI ls i) (B := []) (i := i) (k := p.2 + 1) (s := p.1) (by omega)
        rw [List.append_nil, List.append_nil, hset] at hse
        rw [show (p.2 : Int) + 1 = ((p.2 + 1 : Nat) : Int) from rfl, hse]
        refine ls_n (i + 1) (by omega) ?_ (by omega)
        simp only [eo]
        refine weak_any ?_
        simp only [vx, vz, Nat.reduceAdd, Nat.reduceSub, Nat.reduceMul, Nat.reduceLeDiff, Nat.reduceLT, Nat.reduceEqDiff, Nat.reduceBEq, Int.reduceToNat, Int.reduceNeg, Int.reduceEq, Int.reduceNe, Int.reduceLE, Int.reduceLT, reduceCtorEq, ↓reduceIte]
        rw [wr_i64 (by omega) (by omega)]
        trivial
    · simp only [decide_eq_false_iff_not] at hc
      rw [take_end (by omega)]
      cases ho : opn ls with
      | false =>
        rw [fr_done hi ho, List.append_nil] at h4
        rw [← h4]
        simp only [vx, vz, Nat.reduceAdd, Nat.reduceSub, Nat.reduceMul, Nat.reduceLeDiff, Nat.reduceLT, Nat.reduceEqDiff, Nat.reduceBEq, Int.reduceToNat, Int.reduceNeg, Int.reduceEq, Int.reduceNe, Int.reduceLE, Int.reduceLT, reduceCtorEq, ↓reduceIte]
        exact sn_all (es := out.map slD) rfl (by simp) szl
      | true =>
        have hri := rem_inc (ls := ls)
        have hri2 := hri.2 ho
        obtain ⟨n, rfl⟩ : ∃ m, n = m + 1 := ⟨n - 1, by omega⟩
        rw [fr_idle hi, ho, if_pos rfl] at h4
        have hil2 : (ls.map incS).length = ls.length := by simp
        rw [incI_end (by omega)]
        have r0 : ∀ B : Go.Vx.Rows, Go.Vx.rowAt ((ls.map incS).map laneR ++ B) ls.length = Go.Vx.rowAt B 0 := fun B => rowAt_app (by simp)
        have r1 : ∀ B : Go.Vx.Rows, Go.Vx.rowAt ((ls.map incS).map laneR ++ B) (ls.length + 1) = Go.Vx.rowAt B 1 := fun B => rowAt_app (by simp)
        have s0 : ∀ (B : Go.Vx.Rows) (r : RowS), setAt ((ls.map incS).map laneR ++ B) ls.length r = (ls.map incS).map laneR ++ setAt B 0 r := fun B r => setAt_app (by simp)
        have s1 : ∀ (B : Go.Vx.Rows) (r : RowS), setAt ((ls.map incS).map laneR ++ B) (ls.length + 1) r = (ls.map incS).map laneR ++ setAt B 1 r := fun B r => setAt_app (by simp)
        simp only [vx, vz, Nat.reduceAdd, Nat.reduceSub, Nat.reduceMul, Nat.reduceLeDiff, Nat.reduceLT, Nat.reduceEqDiff, Nat.reduceBEq, Int.reduceToNat, Int.reduceNeg, Int.reduceEq, Int.reduceNe, Int.reduceLE, Int.reduceLT, reduceCtorEq, ↓reduceIte, r0, r1, s0, s1]
        refine ⟨by unfold maxBytes; omega, ?_⟩
        refine ls_n (out ++ [idl], ls.map incS, n) (show n < n + 1 by omega) (Weak.trans (weak_any ?_) (weak_frzA (A := _ :: _ :: (ls.map incS).map laneR) (Nat.zero_le _) ⟨?_, .same _ (ptR_B (n := ls.length) ?_), rowsK_same laneR_B⟩ (kpL_refl ?_))) ⟨okI_inc h1, show rem (ls.map incS) ≤ n by omega, show (out ++ [idl]).length + n ≤ 400 by simp; omega, by rw [← h4]; simp⟩
        · simp only [vx, vz, Nat.reduceAdd, Nat.reduceSub, Nat.reduceMul, Nat.reduceLeDiff, Nat.reduceLT, Nat.reduceEqDiff, Nat.reduceBEq, Int.reduceToNat, Int.reduceNeg, Int.reduceEq, Int.reduceNe, Int.reduceLE, Int.reduceLT, reduceCtorEq, ↓reduceIte]
        · show RowK _ _ _ (.live 4 (((out ++ [idl]).map slD).map (·.map .d)))
          rw [show (out ++ [idl]).map slD = out.map slD ++ [slD idl] by rw [List.map_append]; rfl]
          exact rowK_snoc (x := slD idl) ⟨.same _ rfl, .snap _ _ (.nils 1), .snap _ _ (.nils 1), .same _ rfl, trivial⟩
        · simp
        · simp [hB]
  · obtain ⟨x, hx, hxi⟩ := busy_some hb
    rw [Nat.zero_add] at hi
    have hpl := okI_mem h1 hp
    have hps := hl.2 p.1 (List.mem_of_getElem? hpl)
    have hil := (List.getElem?_eq_some_iff.1 hp).1
    have hxl := (List.getElem?_eq_some_iff.1 hx).1
    have hrm := rem_busy hp hx
    obtain ⟨n, rfl⟩ : ∃ m, n = m + 1 := ⟨n - 1, by omega⟩
    rw [fr_busy hi hp hx] at h4
    rw [hi]
    have hll : (ls.set i (adv p)).length = ls.length := by simp
    have rr : Go.Vx.rowAt (ls.map laneR) i = laneR p := rowAt_map hp
    have r0 : ∀ B : Go.Vx.Rows, Go.Vx.rowAt ((ls.set i (adv p)).map laneR ++ B) ls.length = Go.Vx.rowAt B 0 := fun B => rowAt_app (by simp)
    have r1 : ∀ B : Go.Vx.Rows, Go.Vx.rowAt ((ls.set i (adv p)).map laneR ++ B) (ls.length + 1) = Go.Vx.rowAt B 1 := fun B => rowAt_app (by simp)
    have s0 : ∀ (B : Go.Vx.Rows) (r : RowS), setAt ((ls.set i (adv p)).map laneR ++ B) ls.length r = (ls.set i (adv p)).map laneR ++ setAt B 0 r := fun B r => setAt_app (by simp)
    have s1 : ∀ (B : Go.Vx.Rows) (r : RowS), setAt ((ls.set i (adv p)).map laneR ++ B) (ls.length + 1) r = (ls.set i (adv p)).map laneR ++ setAt B 1 r := fun B r => setAt_app (by simp)
    simp only [vx, vz, Nat.reduceAdd, Nat.reduceSub, Nat.reduceMul, Nat.reduceLeDiff, Nat.reduceLT, Nat.reduceEqDiff, Nat.reduceBEq, Int.reduceToNat, Int.reduceNeg, Int.reduceEq, Int.reduceNe, Int.reduceLE, Int.reduceLT, reduceCtorEq, ↓reduceIte, ptR, List.length_range, dt (show (0 : Int) ≤ i by omega)]
    refine ⟨by omega, by omega, getM_nat (x := i) (List.getElem?_range (by omega)) ?_⟩
    simp only [vx, vz, Nat.reduceAdd, Nat.reduceSub, Nat.reduceMul, Nat.reduceLeDiff, Nat.reduceLT, Nat.reduceEqDiff, Nat.reduceBEq, Int.reduceToNat, Int.reduceNeg, Int.reduceEq, Int.reduceNe, Int.reduceLE, Int.reduceLT, reduceCtorEq, ↓reduceIte, ptC]
    rw [if_pos (by omega)]
    simp only [vx, vz, Nat.reduceAdd, Nat.reduceSub, Nat.reduceMul, Nat.reduceLeDiff, Nat.reduceLT, Nat.reduceEqDiff, Nat.reduceBEq, Int.reduceToNat, Int.reduceNeg, Int.reduceEq, Int.reduceNe, Int.reduceLE, Int.reduceLT, reduceCtorEq, ↓reduceIte]
    refine call_m (i + 2) (vals0 := [.optr 2 0 1 0 0]) (es' := [[.d (.sl 4 (p.1.map slD)), .d (.int .i64 (p.2 + 1 : Nat))]]) rfl rfl (by simp [hAll, hOf1]) (row_lane hp) dE dE rfl (t30 p x hx (by omega) (hps.2 x (List.mem_of_getElem? hx))) ?_
    rw [show renH (i + 2) (slV x) = slV x from rfl]
    simp only [vx, vz, Nat.reduceAdd, Nat.reduceSub, Nat.reduceMul, Nat.reduceLeDiff, Nat.reduceLT, Nat.reduceEqDiff, Nat.reduceBEq, Int.reduceToNat, Int.reduceNeg, Int.reduceEq, Int.reduceNe, Int.reduceLE, Int.reduceLT, reduceCtorEq, ↓reduceIte]
    rw [setAt_lane hil]
    simp only [vx, vz, Nat.reduceAdd, Nat.reduceSub, Nat.reduceMul, Nat.reduceLeDiff, Nat.reduceLT, Nat.reduceEqDiff, Nat.reduceBEq, Int.reduceToNat, Int.reduceNeg, Int.reduceEq, Int.reduceNe, Int.reduceLE, Int.reduceLT, reduceCtorEq, ↓reduceIte, show (p.1, p.2 + 1) = adv p from rfl, r0, r1, s0, s1]
    refine ⟨by unfold maxBytes; omega, ?_⟩
    refine ls_n (out ++ [x], ls.set i (adv p), n) (show n < n + 1 by omega) (Weak.trans (weak_any ?_) (weak_frzA (A := _ :: _ :: (ls.set i (adv p)).map laneR) (Nat.zero_le _) ⟨?_, .same _ (ptR_B (n := ls.length) ?_), rowsK_same laneR_B⟩ (kpL_refl ?_))) ⟨okI_set h1 hp, show rem (ls.set i (adv p)) ≤ n by omega, show (out ++ [x]).length + n ≤ 400 by simp; omega, by rw [← h4]; simp⟩
    · simp only [vx, vz, Nat.reduceAdd, Nat.reduceSub, Nat.reduceMul, Nat.reduceLeDiff, Nat.reduceLT, Nat.reduceEqDiff, Nat.reduceBEq, Int.reduceToNat, Int.reduceNeg, Int.reduceEq, Int.reduceNe, Int.reduceLE, Int.reduceLT, reduceCtorEq, ↓reduceIte]
    · show RowK _ _ _ (.live 4 (((out ++ [x]).map slD).map (·.map .d)))
      rw [show (out ++ [x]).map slD = out.map slD ++ [slD x] by rw [List.map_append]; rfl]
      exact rowK_snoc (x := slD x) ⟨.same _ rfl, .same _ rfl, .same _ rfl, .same _ rfl, trivial⟩
    · simp
    · simp [hB]
end Go.Proofs.Ar

namespace Go.Proofs.Ar
open Go.Vx
theorem round_nil {l : List (List Sl)} {k : Nat} : roundS l k = [] ↔ ∀ s ∈ l, s.length ≤ k := by
  rw [roundS, List.filterMap_eq_nil_iff]
  exact ⟨fun h s hs => List.getElem?_eq_none_iff.1 (h s hs), fun h s hs => List.getElem?_eq_none_iff.2 (h s hs)⟩
theorem long_of {l : List (List Sl)} {k n : Nat} (hn : n ≤ k) (h : ∀ s ∈ l, s.length ≤ k) : l.foldl (fun n s => max n s.length) n ≤ k := by
  induction l generalizing n with
  | nil => exact hn
  | cons x l ih =>
    rw [List.foldl_cons]
    have := h x (by simp)
    exact ih (by omega) (fun s hs => h s (by simp [hs]))
theorem round_long {l : List (List Sl)} {k : Nat} : (roundS l k = [] → longS l ≤ k) ∧ (roundS l k ≠ [] → k < longS l) := by
  refine ⟨fun h => long_of (Nat.zero_le _) (round_nil.1 h), fun h => ?_⟩
  rcases Nat.lt_or_ge k (longS l) with h1 | h1
  · exact h1
  · exact absurd (round_nil.2 fun s hs => by have := (long_mem (n := 0) hs).1; rw [longS] at h1; omega) h
def anyB (l : List Sl) : Bool := !l.isEmpty
theorem anyB_snoc {l : List Sl} {x : Sl} : anyB (l ++ [x]) = true := by cases l <;> rfl
theorem anyB_f {l : List Sl} (h : anyB l = false) : l = [] := by cases l <;> simp_all [anyB]
theorem anyB_t {l : List Sl} (h : anyB l = true) : l ≠ [] := by cases l <;> simp_all [anyB]
theorem t13 (l : List (List Sl)) (hl : okL l) : CallP Try.prog 13 [llV l] (stV (outT l (longS l))) := by
  have hm := hm
  have hl1 := hl.1
  have hlg := long_le hl
  refine go13 ac13 rfl ?_
  simp only [vx, vz, Nat.reduceAdd, Nat.reduceSub, Nat.reduceMul, Nat.reduceLeDiff, Nat.reduceLT, Nat.reduceEqDiff, Nat.reduceBEq, Int.reduceToNat, Int.reduceNeg, Int.reduceEq, Int.reduceNe, Int.reduceLE, Int.reduceLT, reduceCtorEq, ↓reduceIte, ac13]
  refine loop_st (fun s : Nat × Bool => ⟨mkF 34 [(0, llV l), (3, .osl 4 0 (outT l s.1).length 0 (outT l s.1).length), (4, .d (.int .i64 s.1)), (5, .d (.bool s.2))], [.live 4 (((outT l s.1).map slD).map (·.map .d))]⟩) (fun s => (s.2 = true → s.1 ≤ longS l) ∧ (s.2 = false → outT l s.1 = outT l (longS l))) (fun s => longS l + 2 - s.1) (0, true) (Weak.trans (weak_nils 3 4 rfl) (weak_any (by simp only [vx, vz, Nat.reduceAdd, Nat.reduceSub, Nat.reduceMul, Nat.reduceLeDiff, Nat.reduceLT, Nat.reduceEqDiff, Nat.reduceBEq, Int.reduceToNat, Int.reduceNeg, Int.reduceEq, Int.reduceNe, Int.reduceLE, Int.reduceLT, reduceCtorEq, ↓reduceIte]; try trivial))) ⟨fun _ => Nat.zero_le _, fun h => by cases h⟩ (fun s hs => ?_)
  obtain ⟨k, more⟩ := s
  obtain ⟨h1, h2⟩ := hs
  simp only at h1 h2
  have hok := outT_len hl k
  cases more with
  | false =>
    rw [h2 rfl]
    simp only [vx, vz, Nat.reduceAdd, Nat.reduceSub, Nat.reduceMul, Nat.reduceLeDiff, Nat.reduceLT, Nat.reduceEqDiff, Nat.reduceBEq, Int.reduceToNat, Int.reduceNeg, Int.reduceEq, Int.reduceNe, Int.reduceLE, Int.reduceLT, reduceCtorEq, ↓reduceIte]
    exact sn_all (es := (outT l (longS l)).map slD) rfl (by simp) szl
  | true =>
    have hk := h1 rfl
    simp only [vx, vz, Nat.reduceAdd, Nat.reduceSub, Nat.reduceMul, Nat.reduceLeDiff, Nat.reduceLT, Nat.reduceEqDiff, Nat.reduceBEq, Int.reduceToNat, Int.reduceNeg, Int.reduceEq, Int.reduceNe, Int.reduceLE, Int.reduceLT, reduceCtorEq, ↓reduceIte]
    refine loop_st (fun i : Nat => ⟨mkF 34 [(0, llV l), (3, .osl 4 0 (outT l k ++ roundS (l.take i) k).length 0 (outT l k ++ roundS (l.take i) k).length), (4, .d (.int .i64 k)), (5, .d (.bool (anyB (roundS (l.take i) k)))), (6, .d (.int .i64 i))], [.live 4 (((outT l k ++ roundS (l.take i) k).map slD).map (·.map .d))]⟩) (fun i => i ≤ l.length) (fun i => l.length - i) 0 (by
      have e : outT l k ++ roundS (l.take 0) k = outT l k := by simp [roundS]
      have e2 : anyB (roundS (l.take 0) k) = false := by simp [roundS, anyB]
      simp only [e, e2]
      exact weak_any (by simp only [vx, vz, Nat.reduceAdd, Nat.reduceSub, Nat.reduceMul, Nat.reduceLeDiff, Nat.reduceLT, Nat.reduceEqDiff, Nat.reduceBEq, Int.reduceToNat, Int.reduceNeg, Int.reduceEq, Int.reduceNe, Int.reduceLE, Int.reduceLT, reduceCtorEq, ↓reduceIte]; try trivial)) (by omega) (fun i hi => ?_)
    have hrl := round_len (l := l) (k := k) (i := i)
    simp only [vx, vz, Nat.reduceAdd, Nat.reduceSub, Nat.reduceMul, Nat.reduceLeDiff, Nat.reduceLT, Nat.reduceEqDiff, Nat.reduceBEq, Int.reduceToNat, Int.reduceNeg, Int.reduceEq, Int.reduceNe, Int.reduceLE, Int.reduceLT, reduceCtorEq, ↓reduceIte]
    refine cond_split (fun hc2 => ?_) (fun hc2 => ?_)
    · simp only [decide_eq_true_eq] at hc2
      obtain ⟨s, hs⟩ := get_ex (l := l) (i := i) (by omega)
      simp only [vx, vz, Nat.reduceAdd, Nat.reduceSub, Nat.reduceMul, Nat.reduceLeDiff, Nat.reduceLT, Nat.reduceEqDiff, Nat.reduceBEq, Int.reduceToNat, Int.reduceNeg, Int.reduceEq, Int.reduceNe, Int.reduceLE, Int.reduceLT, reduceCtorEq, ↓reduceIte]
      refine ⟨by omega, by omega, getM_at hs ?_⟩
      simp only [vx, vz, Nat.reduceAdd, Nat.reduceSub, Nat.reduceMul, Nat.reduceLeDiff, Nat.reduceLT, Nat.reduceEqDiff, Nat.reduceBEq, Int.reduceToNat, Int.reduceNeg, Int.reduceEq, Int.reduceNe, Int.reduceLE, Int.reduceLT, reduceCtorEq, ↓reduceIte]
      simp only [vx, vz, Nat.reduceAdd, Nat.reduceSub, Nat.reduceMul, Nat.reduceLeDiff, Nat.reduceLT, Nat.reduceEqDiff, Nat.reduceBEq, Int.reduceToNat, Int.reduceNeg, Int.reduceEq, Int.reduceNe, Int.reduceLE, Int.reduceLT, reduceCtorEq, ↓reduceIte, stD]
      refine cond_split (fun hc3 => ?_) (fun hc3 => ?_)
      · simp only [decide_eq_true_eq] at hc3
        obtain ⟨x, hx⟩ := get_ex (l := s) (i := k) (by omega)
        have er : roundS (l.take (i + 1)) k = roundS (l.take i) k ++ [x] := by rw [round_snoc hs, hx]
        simp only [vx, vz, Nat.reduceAdd, Nat.reduceSub, Nat.reduceMul, Nat.reduceLeDiff, Nat.reduceLT, Nat.reduceEqDiff, Nat.reduceBEq, Int.reduceToNat, Int.reduceNeg, Int.reduceEq, Int.reduceNe, Int.reduceLE, Int.reduceLT, reduceCtorEq, ↓reduceIte]
        refine ⟨by omega, by omega, getM_at hs ?_⟩
        simp only [vx, vz, Nat.reduceAdd, Nat.reduceSub, Nat.reduceMul, Nat.reduceLeDiff, Nat.reduceLT, Nat.reduceEqDiff, Nat.reduceBEq, Int.reduceToNat, Int.reduceNeg, Int.reduceEq, Int.reduceNe, Int.reduceLE, Int.reduceLT, reduceCtorEq, ↓reduceIte]
        simp only [vx, vz, Nat.reduceAdd, Nat.reduceSub, Nat.reduceMul, Nat.reduceLeDiff, Nat.reduceLT, Nat.reduceEqDiff, Nat.reduceBEq, Int.reduceToNat, Int.reduceNeg, Int.reduceEq, Int.reduceNe, Int.reduceLE, Int.reduceLT, reduceCtorEq, ↓reduceIte, stD]
        refine ⟨by omega, by omega, getM_at hx ?_⟩
        simp only [vx, vz, Nat.reduceAdd, Nat.reduceSub, Nat.reduceMul, Nat.reduceLeDiff, Nat.reduceLT, Nat.reduceEqDiff, Nat.reduceBEq, Int.reduceToNat, Int.reduceNeg, Int.reduceEq, Int.reduceNe, Int.reduceLE, Int.reduceLT, reduceCtorEq, ↓reduceIte]
        simp only [vx, vz, Nat.reduceAdd, Nat.reduceSub, Nat.reduceMul, Nat.reduceLeDiff, Nat.reduceLT, Nat.reduceEqDiff, Nat.reduceBEq, Int.reduceToNat, Int.reduceNeg, Int.reduceEq, Int.reduceNe, Int.reduceLE, Int.reduceLT, reduceCtorEq, ↓reduceIte, slD]
        refine ⟨by unfold maxBytes; omega, ?_⟩
        refine ls_n (i + 1) (by omega) (Weak.trans (weak_any ?_) (weak_frz2 1 (by omega) ⟨?_, trivial⟩ (kpL_refl ?_))) (by omega)
        · simp only [vx, vz, Nat.reduceAdd, Nat.reduceSub, Nat.reduceMul, Nat.reduceLeDiff, Nat.reduceLT, Nat.reduceEqDiff, Nat.reduceBEq, Int.reduceToNat, Int.reduceNeg, Int.reduceEq, Int.reduceNe, Int.reduceLE, Int.reduceLT, reduceCtorEq, ↓reduceIte]
          rw [wr_i64 (by omega) (by omega), er, anyB_snoc, List.length_append, Nat.add_assoc]
          exact ⟨rfl, rfl, rfl⟩
        · show RowK _ _ _ (.live 4 (((outT l k ++ roundS (l.take (i + 1)) k).map slD).map (·.map .d)))
          have e3 : (outT l k ++ roundS (l.take (i + 1)) k).map slD = (outT l k ++ roundS (l.take i) k).map slD ++ [slD x] := by
            rw [er, ← List.append_assoc, List.map_append]; rfl
          rw [e3]
          exact rowK_snoc (x := slD x) ⟨.same _ rfl, .same _ rfl, .same _ rfl, .same _ rfl, trivial⟩
        · rfl
      · simp only [decide_eq_false_iff_not] at hc3
        have er : roundS (l.take (i + 1)) k = roundS (l.take i) k := by rw [round_snoc hs, List.getElem?_eq_none (by omega)]; simp
        simp only [vx, vz, Nat.reduceAdd, Nat.reduceSub, Nat.reduceMul, Nat.reduceLeDiff, Nat.reduceLT, Nat.reduceEqDiff, Nat.reduceBEq, Int.reduceToNat, Int.reduceNeg, Int.reduceEq, Int.reduceNe, Int.reduceLE, Int.reduceLT, reduceCtorEq, ↓reduceIte]
        refine ls_n (i + 1) (by omega) ?_ (by omega)
        simp only [er]
        refine weak_any ?_
        simp only [vx, vz, Nat.reduceAdd, Nat.reduceSub, Nat.reduceMul, Nat.reduceLeDiff, Nat.reduceLT, Nat.reduceEqDiff, Nat.reduceBEq, Int.reduceToNat, Int.reduceNeg, Int.reduceEq, Int.reduceNe, Int.reduceLE, Int.reduceLT, reduceCtorEq, ↓reduceIte]
        rw [wr_i64 (by omega) (by omega)]
        trivial
    · simp only [decide_eq_false_iff_not] at hc2
      have e1 : outT l k ++ roundS (l.take i) k = outT l (k + 1) := by rw [take_end (by omega), outT_succ]
      rw [take_end (by omega)] at e1 ⊢
      simp only [vx, vz, Nat.reduceAdd, Nat.reduceSub, Nat.reduceMul, Nat.reduceLeDiff, Nat.reduceLT, Nat.reduceEqDiff, Nat.reduceBEq, Int.reduceToNat, Int.reduceNeg, Int.reduceEq, Int.reduceNe, Int.reduceLE, Int.reduceLT, reduceCtorEq, ↓reduceIte]
      refine ls_n (k + 1, anyB (roundS l k)) (show longS l + 2 - (k + 1) < longS l + 2 - k by omega) ?_ ⟨fun h => (round_long.2 (anyB_t h)), fun h => ?_⟩
      · rw [e1]
        refine weak_any ?_
        simp only [vx, vz, Nat.reduceAdd, Nat.reduceSub, Nat.reduceMul, Nat.reduceLeDiff, Nat.reduceLT, Nat.reduceEqDiff, Nat.reduceBEq, Int.reduceToNat, Int.reduceNeg, Int.reduceEq, Int.reduceNe, Int.reduceLE, Int.reduceLT, reduceCtorEq, ↓reduceIte]
        rw [wr_i64 (by omega) (by omega), ← e1, List.length_append]
        exact ⟨rfl, rfl⟩
      · have h3 := anyB_f h
        have h4 := round_long.1 h3
        have h5 : k = longS l := by omega
        simp only
        rw [outT_succ, h3, List.append_nil, h5]
end Go.Proofs.Ar

namespace Go.Proofs.Ar
open Go.Vx
def atC (p : List Sl × Nat) : List V := [.d (.int .i64 p.2)]
theorem at_set {ls : List (List Sl × Nat)} {i k : Nat} {s : List Sl} : (ls.map atC).set i [V.d (.int .i64 (k : Nat))] = (ls.set i (s, k)).map atC := by rw [List.map_set]; rfl
theorem opn_drop {ls : List (List Sl × Nat)} {i : Nat} {p : List Sl × Nat} (h : ls[i]? = some p) : opn (ls.drop i) = (!finS p || opn (ls.drop (i + 1))) := by rw [drop_at h]; rfl
theorem fidx_drop {ls : List (List Sl × Nat)} {i : Nat} {p : List Sl × Nat} (h : ls[i]? = some p) : fidx busyS (ls.drop i) i = if busyS p then (i : Int) else fidx busyS (ls.drop (i + 1)) (i + 1) := by rw [drop_at h, fidx]
theorem t15 (l : List (List Sl)) (hl : okL l) : CallP Try.prog 15 [llV l] (stV (firS l)) := by
  have hm := hm
  have hl1 := hl.1
  have hr0 := rem_le hl
  refine go15 ac15 rfl ?_
  simp only [vx, vz, Nat.reduceAdd, Nat.reduceSub, Nat.reduceMul, Nat.reduceLeDiff, Nat.reduceLT, Nat.reduceEqDiff, Nat.reduceBEq, Int.reduceToNat, Int.reduceNeg, Int.reduceEq, Int.reduceNe, Int.reduceLE, Int.reduceLT, reduceCtorEq, ↓reduceIte, ac15]
  refine ⟨by omega, by omega, by omega, by omega, ?_⟩
  have hz : List.replicate l.length [V.d (.int .i64 0)] = (l.map ln0).map atC := by
    refine List.ext_getElem (by simp) fun j h1 h2 => ?_
    simp [atC, ln0]
  rw [hz]
  refine loop_st (fun s : List Sl × List (List Sl × Nat) × Nat => ⟨mkF 96 [(0, llV l), (3, .osl 1 0 l.length 0 l.length), (4, .osl 4 1 s.1.length 0 s.1.length)], [.live 1 (s.2.1.map atC), .live 4 ((s.1.map slD).map (·.map .d))]⟩) (fun s => okI l s.2.1 ∧ rem s.2.1 ≤ s.2.2 ∧ s.1.length + s.2.2 ≤ 400 ∧ s.1 ++ frS s.2.2 s.2.1 = firS l) (fun s => s.2.2) ([], l.map ln0, rem (l.map ln0)) (Weak.trans (weak_nils 4 4 rfl) (weak_any (by simp only [vx, vz, Nat.reduceAdd, Nat.reduceSub, Nat.reduceMul, Nat.reduceLeDiff, Nat.reduceLT, Nat.reduceEqDiff, Nat.reduceBEq, Int.reduceToNat, Int.reduceNeg, Int.reduceEq, Int.reduceNe, Int.reduceLE, Int.reduceLT, reduceCtorEq, ↓reduceIte]; try trivial))) ⟨by simp [okI, ln0, List.map_map, Function.comp_def], by simp, by simpa using hr0, rfl⟩ (fun s hs => ?_)
  obtain ⟨out, ls, n⟩ := s
  obtain ⟨h1, h2, h3, h4⟩ := hs
  simp only at h1 h2 h3 h4
  have hlen := okI_len h1
  simp only [vx, vz, Nat.reduceAdd, Nat.reduceSub, Nat.reduceMul, Nat.reduceLeDiff, Nat.reduceLT, Nat.reduceEqDiff, Nat.reduceBEq, Int.reduceToNat, Int.reduceNeg, Int.reduceEq, Int.reduceNe, Int.reduceLE, Int.reduceLT, reduceCtorEq, ↓reduceIte]
  refine loop_st (fun t : Nat => ⟨mkF 96 [(0, llV l), (3, .osl 1 0 l.length 0 l.length), (4, .osl 4 1 out.length 0 out.length), (5, .d (.bool (opn (ls.drop t)))), (6, .d (.int .i64 (fidx busyS (ls.drop t) t))), (7, .d (.int .i64 ((t : Int) - 1)))], [.live 1 (ls.map atC), .live 4 ((out.map slD).map (·.map .d))]⟩) (fun t => t ≤ ls.length) (fun t => t) ls.length (by
    have e1 : ls.drop ls.length = [] := drop_end (Nat.le_refl _)
    have e2 : opn [] = false := rfl
    have e3 : fidx busyS [] ls.length = -1 := rfl
    simp only [e1, e2, e3]
    refine weak_any ?_
    simp only [vx, vz, Nat.reduceAdd, Nat.reduceSub, Nat.reduceMul, Nat.reduceLeDiff, Nat.reduceLT, Nat.reduceEqDiff, Nat.reduceBEq, Int.reduceToNat, Int.reduceNeg, Int.reduceEq, Int.reduceNe, Int.reduceLE, Int.reduceLT, reduceCtorEq, ↓reduceIte]
    rw [wr_i64 (by omega) (by omega), hlen]) (by omega) (fun t ht => ?_)
  simp only [vx, vz, Nat.reduceAdd, Nat.reduceSub, Nat.reduceMul, Nat.reduceLeDiff, Nat.reduceLT, Nat.reduceEqDiff, Nat.reduceBEq, Int.reduceToNat, Int.reduceNeg, Int.reduceEq, Int.reduceNe, Int.reduceLE, Int.reduceLT, reduceCtorEq, ↓reduceIte]
  refine cond_split (fun hc => ?_) (fun hc => ?_)
  · simp only [decide_eq_true_eq] at hc
    obtain ⟨t, rfl⟩ : ∃ u, t = u + 1 := ⟨t - 1, by omega⟩
    obtain ⟨p, hp⟩ := get_ex (l := ls) (i := t) (by omega)
    have hpl := okI_mem h1 hp
    have eo := opn_drop hp
    have ef := fidx_drop hp
    have e1 : (((t + 1 : Nat) : Int) - 1) = t := by omega
    rw [e1]
    simp only [vx, vz, Nat.reduceAdd, Nat.reduceSub, Nat.reduceMul, Nat.reduceLeDiff, Nat.reduceLT, Nat.reduceEqDiff, Nat.reduceBEq, Int.reduceToNat, Int.reduceNeg, Int.reduceEq, Int.reduceNe, Int.reduceLE, Int.reduceLT, reduceCtorEq, ↓reduceIte]
    refine c_quiet rfl ?_
    simp only [vx, vz, Nat.reduceAdd, Nat.reduceSub, Nat.reduceMul, Nat.reduceLeDiff, Nat.reduceLT, Nat.reduceEqDiff, Nat.reduceBEq, Int.reduceToNat, Int.reduceNeg, Int.reduceEq, Int.reduceNe, Int.reduceLE, Int.reduceLT, reduceCtorEq, ↓reduceIte]
    refine ⟨by omega, by omega, hlen, hlen, getM_nat hp ?_⟩
    simp only [vx, vz, Nat.reduceAdd, Nat.reduceSub, Nat.reduceMul, Nat.reduceLeDiff, Nat.reduceLT, Nat.reduceEqDiff, Nat.reduceBEq, Int.reduceToNat, Int.reduceNeg, Int.reduceEq, Int.reduceNe, Int.reduceLE, Int.reduceLT, reduceCtorEq, ↓reduceIte, atC]
    refine ⟨by omega, by omega, getM_at hpl ?_⟩
    simp only [vx, vz, Nat.reduceAdd, Nat.reduceSub, Nat.reduceMul, Nat.reduceLeDiff, Nat.reduceLT, Nat.reduceEqDiff, Nat.reduceBEq, Int.reduceToNat, Int.reduceNeg, Int.reduceEq, Int.reduceNe, Int.reduceLE, Int.reduceLT, reduceCtorEq, ↓reduceIte]
    simp only [vx, vz, Nat.reduceAdd, Nat.reduceSub, Nat.reduceMul, Nat.reduceLeDiff, Nat.reduceLT, Nat.reduceEqDiff, Nat.reduceBEq, Int.reduceToNat, Int.reduceNeg, Int.reduceEq, Int.reduceNe, Int.reduceLE, Int.reduceLT, reduceCtorEq, ↓reduceIte, stD]
    refine cond_split (fun hc2 => ?_) (fun hc2 => ?_)
    · simp only [decide_eq_true_eq] at hc2
      have hf : finS p = false := decide_eq_false (by omega)
      obtain ⟨x, hx⟩ := get_ex (l := p.1) (i := p.2) (by omega)
      have hb : busyS p = !x.1 := by rw [busyS, hx]
      rw [hf, Bool.not_false, Bool.true_or] at eo
      rw [hb] at ef
      simp only [vx, vz, Nat.reduceAdd, Nat.reduceSub, Nat.reduceMul, Nat.reduceLeDiff, Nat.reduceLT, Nat.reduceEqDiff, Nat.reduceBEq, Int.reduceToNat, Int.reduceNeg, Int.reduceEq, Int.reduceNe, Int.reduceLE, Int.reduceLT, reduceCtorEq, ↓reduceIte]
      refine c_quiet rfl ?_
      simp only [vx, vz, Nat.reduceAdd, Nat.reduceSub, Nat.reduceMul, Nat.reduceLeDiff, Nat.reduceLT, Nat.reduceEqDiff, Nat.reduceBEq, Int.reduceToNat, Int.reduceNeg, Int.reduceEq, Int.reduceNe, Int.reduceLE, Int.reduceLT, reduceCtorEq, ↓reduceIte]
      refine ⟨by omega, by omega, getM_at hpl ?_⟩
      simp only [vx, vz, Nat.reduceAdd, Nat.reduceSub, Nat.reduceMul, Nat.reduceLeDiff, Nat.reduceLT, Nat.reduceEqDiff, Nat.reduceBEq, Int.reduceToNat, Int.reduceNeg, Int.reduceEq, Int.reduceNe, Int.reduceLE, Int.reduceLT, reduceCtorEq, ↓reduceIte]
      simp only [vx, vz, Nat.reduceAdd, Nat.reduceSub, Nat.reduceMul, Nat.reduceLeDiff, Nat.reduceLT, Nat.reduceEqDiff, Nat.reduceBEq, Int.reduceToNat, Int.reduceNeg, Int.reduceEq, Int.reduceNe, Int.reduceLE, Int.reduceLT, reduceCtorEq, ↓reduceIte, stD]
      refine ⟨by omega, by omega, hlen, hlen, getM_nat hp ?_⟩
      simp only [vx, vz, Nat.reduceAdd, Nat.reduceSub, Nat.reduceMul, Nat.reduceLeDiff, Nat.reduceLT, Nat.reduceEqDiff, Nat.reduceBEq, Int.reduceToNat, Int.reduceNeg, Int.reduceEq, Int.reduceNe, Int.reduceLE, Int.reduceLT, reduceCtorEq, ↓reduceIte, atC]
      refine ⟨by omega, by omega, getM_nat hx ?_⟩
      simp only [vx, vz, Nat.reduceAdd, Nat.reduceSub, Nat.reduceMul, Nat.reduceLeDiff, Nat.reduceLT, Nat.reduceEqDiff, Nat.reduceBEq, Int.reduceToNat, Int.reduceNeg, Int.reduceEq, Int.reduceNe, Int.reduceLE, Int.reduceLT, reduceCtorEq, ↓reduceIte, slD]
      cases hxi : x.1 with
      | true =>
        rw [hxi, Bool.not_true, if_neg (by decide)] at ef
        simp only [vx, vz, Nat.reduceAdd, Nat.reduceSub, Nat.reduceMul, Nat.reduceLeDiff, Nat.reduceLT, Nat.reduceEqDiff, Nat.reduceBEq, Int.reduceToNat, Int.reduceNeg, Int.reduceEq, Int.reduceNe, Int.reduceLE, Int.reduceLT, reduceCtorEq, ↓reduceIte]
        refine ls_n t (by omega) ?_ (by omega)
        simp only [eo, ef]
        refine weak_any ?_
        simp only [vx, vz, Nat.reduceAdd, Nat.reduceSub, Nat.reduceMul, Nat.reduceLeDiff, Nat.reduceLT, Nat.reduceEqDiff, Nat.reduceBEq, Int.reduceToNat, Int.reduceNeg, Int.reduceEq, Int.reduceNe, Int.reduceLE, Int.reduceLT, reduceCtorEq, ↓reduceIte]
        rw [wr_i64 (by omega) (by omega)]
        try trivial
      | false =>
        rw [hxi, Bool.not_false, if_pos rfl] at ef
        simp only [vx, vz, Nat.reduceAdd, Nat.reduceSub, Nat.reduceMul, Nat.reduceLeDiff, Nat.reduceLT, Nat.reduceEqDiff, Nat.reduceBEq, Int.reduceToNat, Int.reduceNeg, Int.reduceEq, Int.reduceNe, Int.reduceLE, Int.reduceLT, reduceCtorEq, ↓reduceIte]
        refine ls_n t (by omega) ?_ (by omega)
        simp only [eo, ef]
        refine weak_any ?_
        simp only [vx, vz, Nat.reduceAdd, Nat.reduceSub, Nat.reduceMul, Nat.reduceLeDiff, Nat.reduceLT, Nat.reduceEqDiff, Nat.reduceBEq, Int.reduceToNat, Int.reduceNeg, Int.reduceEq, Int.reduceNe, Int.reduceLE, Int.reduceLT, reduceCtorEq, ↓reduceIte]
        rw [wr_i64 (by omega) (by omega)]
        try trivial
    · simp only [decide_eq_false_iff_not] at hc2
      have hf : finS p = true := decide_eq_true (by omega)
      have hb : busyS p = false := by rw [busyS, List.getElem?_eq_none (by omega)]
      rw [hf, Bool.not_true, Bool.false_or] at eo
      rw [hb, if_neg (by decide)] at ef
      simp only [vx, vz, Nat.reduceAdd, Nat.reduceSub, Nat.reduceMul, Nat.reduceLeDiff, Nat.reduceLT, Nat.reduceEqDiff, Nat.reduceBEq, Int.reduceToNat, Int.reduceNeg, Int.reduceEq, Int.reduceNe, Int.reduceLE, Int.reduceLT, reduceCtorEq, ↓reduceIte]
      refine ls_n t (by omega) ?_ (by omega)
      simp only [eo, ef]
      refine weak_any ?_
      simp only [vx, vz, Nat.reduceAdd, Nat.reduceSub, Nat.reduceMul, Nat.reduceLeDiff, Nat.reduceLT, Nat.reduceEqDiff, Nat.reduceBEq, Int.reduceToNat, Int.reduceNeg, Int.reduceEq, Int.reduceNe, Int.reduceLE, Int.reduceLT, reduceCtorEq, ↓reduceIte]
      rw [wr_i64 (by omega) (by omega)]
      try trivial
  · simp only [decide_eq_false_iff_not] at hc
    obtain rfl : t = 0 := by omega
    rw [List.drop_zero]
    cases ho : opn ls with
    | false =>
      have hi : fidx busyS ls 0 = -1 := by
        rcases fidx_spec (q := busyS) (l := ls) (k := 0) with ⟨hi, _⟩ | ⟨i, p, _, hp, hb⟩
        · exact hi
        · obtain ⟨x, hx, _⟩ := busy_some hb
          have hxl := (List.getElem?_eq_some_iff.1 hx).1
          have : finS p = true := by
            have := List.any_eq_false.1 ho p (List.mem_of_getElem? hp)
            simpa using this
          have := of_decide_eq_true this
          omega
      rw [fr_done hi ho, List.append_nil] at h4
      rw [← h4]
      simp only [vx, vz, Nat.reduceAdd, Nat.reduceSub, Nat.reduceMul, Nat.reduceLeDiff, Nat.reduceLT, Nat.reduceEqDiff, Nat.reduceBEq, Int.reduceToNat, Int.reduceNeg, Int.reduceEq, Int.reduceNe, Int.reduceLE, Int.reduceLT, reduceCtorEq, ↓reduceIte]
      exact sn_all (es := out.map slD) rfl (by simp) szl
    | true =>
      rcases fidx_spec (q := busyS) (l := ls) (k := 0) with ⟨hi, hno⟩ | ⟨i, p, hi, hp, hb⟩
      · have hri := rem_inc (ls := ls)
        have hri2 := hri.2 ho
        obtain ⟨n, rfl⟩ : ∃ m, n = m + 1 := ⟨n - 1, by omega⟩
        rw [fr_idle hi, ho, if_pos rfl] at h4
        rw [hi]
        simp only [vx, vz, Nat.reduceAdd, Nat.reduceSub, Nat.reduceMul, Nat.reduceLeDiff, Nat.reduceLT, Nat.reduceEqDiff, Nat.reduceBEq, Int.reduceToNat, Int.reduceNeg, Int.reduceEq, Int.reduceNe, Int.reduceLE, Int.reduceLT, reduceCtorEq, ↓reduceIte]
        refine ⟨by unfold maxBytes; omega, ?_⟩
        refine loop_st (fun i : Nat => ⟨mkF 96 [(0, llV l), (3, .osl 1 0 l.length 0 l.length), (4, .osl 4 1 (out.length + 1) 0 (out.length + 1)), (8, .d (.int .i64 i))], [.live 1 ((incI ls i).map atC), .live 4 (((out ++ [idl]).map slD).map (·.map .d))]⟩) (fun i => i ≤ ls.length) (fun i => ls.length - i) 0 (by
          simp only [incI_zero]
          refine Weak.trans (weak_any ?_) (weak_frz2 2 (by omega) ⟨.same _ ?_, ?_, trivial⟩ (kpL_refl ?_))
          · simp only [vx, vz, Nat.reduceAdd, Nat.reduceSub, Nat.reduceMul, Nat.reduceLeDiff, Nat.reduceLT, Nat.reduceEqDiff, Nat.reduceBEq, Int.reduceToNat, Int.reduceNeg, Int.reduceEq, Int.reduceNe, Int.reduceLE, Int.reduceLT, reduceCtorEq, ↓reduceIte]
            try trivial
          · intro e he v hv
            obtain ⟨p, _, rfl⟩ := List.mem_map.1 he
            simp [atC] at hv
            subst hv; rfl
          · show RowK _ _ _ (.live 4 (((out ++ [idl]).map slD).map (·.map .d)))
            rw [show (out ++ [idl]).map slD = out.map slD ++ [slD idl] by rw [List.map_append]; rfl]
            exact rowK_snoc (x := slD idl) ⟨.same _ rfl, .snap _ _ (.nils 1), .snap _ _ (.nils 1), .same _ rfl, trivial⟩
          · rfl) (by omega) (fun i hi2 => ?_)
        have hil := incI_len (ls := ls) hi2
        simp only [vx, vz, Nat.reduceAdd, Nat.reduceSub, Nat.reduceMul, Nat.reduceLeDiff, Nat.reduceLT, Nat.reduceEqDiff, Nat.reduceBEq, Int.reduceToNat, Int.reduceNeg, Int.reduceEq, Int.reduceNe, Int.reduceLE, Int.reduceLT, reduceCtorEq, ↓reduceIte]
        refine cond_split (fun hc2 => ?_) (fun hc2 => ?_)
        · simp only [decide_eq_true_eq] at hc2
          obtain ⟨p, hp⟩ := get_ex (l := ls) (i := i) (by omega)
          have hat := incI_at hp
          have hpl := okI_mem h1 hp
          have hpn := (hl.2 p.1 (List.mem_of_getElem? hpl)).1
          simp only [vx, vz, Nat.reduceAdd, Nat.reduceSub, Nat.reduceMul, Nat.reduceLeDiff, Nat.reduceLT, Nat.reduceEqDiff, Nat.reduceBEq, Int.reduceToNat, Int.reduceNeg, Int.reduceEq, Int.reduceNe, Int.reduceLE, Int.reduceLT, reduceCtorEq, ↓reduceIte]
          refine c_quiet rfl ?_
          simp only [vx, vz, Nat.reduceAdd, Nat.reduceSub, Nat.reduceMul, Nat.reduceLeDiff, Nat.reduceLT, Nat.reduceEqDiff, Nat.reduceBEq, Int.reduceToNat, Int.reduceNeg, Int.reduceEq, Int.reduceNe, Int.reduceLE, Int.reduceLT, reduceCtorEq, ↓reduceIte]
          refine ⟨by omega, by omega, by omega, by omega, getM_nat hat ?_⟩
          simp only [vx, vz, Nat.reduceAdd, Nat.reduceSub, Nat.reduceMul, Nat.reduceLeDiff, Nat.reduceLT, Nat.reduceEqDiff, Nat.reduceBEq, Int.reduceToNat, Int.reduceNeg, Int.reduceEq, Int.reduceNe, Int.reduceLE, Int.reduceLT, reduceCtorEq, ↓reduceIte, atC]
          refine ⟨by omega, by omega, getM_at hpl ?_⟩
          simp only [vx, vz, Nat.reduceAdd, Nat.reduceSub, Nat.reduceMul, Nat.reduceLeDiff, Nat.reduceLT, Nat.reduceEqDiff, Nat.reduceBEq, Int.reduceToNat, Int.reduceNeg, Int.reduceEq, Int.reduceNe, Int.reduceLE, Int.reduceLT, reduceCtorEq, ↓reduceIte]
          simp only [vx, vz, Nat.reduceAdd, Nat.reduceSub, Nat.reduceMul, Nat.reduceLeDiff, Nat.reduceLT, Nat.reduceEqDiff, Nat.reduceBEq, Int.reduceToNat, Int.reduceNeg, Int.reduceEq, Int.reduceNe, Int.reduceLE, Int.reduceLT, reduceCtorEq, ↓reduceIte, stD]
          refine cond_split (fun hc3 => ?_) (fun hc3 => ?_)
          · simp only [decide_eq_true_eq] at hc3
            have hset : (incI ls i).set i (p.1, p.2 + 1) = incI ls (i + 1) := by
              rw [← incI_set hp, show incS p = (p.1, p.2 + 1) by rw [incS, if_pos (by omega)]; rfl]
            simp only [vx, vz, Nat.reduceAdd, Nat.reduceSub, Nat.reduceMul, Nat.reduceLeDiff, Nat.reduceLT, Nat.reduceEqDiff, Nat.reduceBEq, Int.reduceToNat, Int.reduceNeg, Int.reduceEq, Int.reduceNe, Int.reduceLE, Int.reduceLT, reduceCtorEq, ↓reduceIte]
            refine ⟨by omega, by omega, by omega, by omega, getM_nat hat ?_⟩
            simp only [vx, vz, Nat.reduceAdd, Nat.reduceSub, Nat.reduceMul, Nat.reduceLeDiff, Nat.reduceLT, Nat.reduceEqDiff, Nat.reduceBEq, Int.reduceToNat, Int.reduceNeg, Int.reduceEq, Int.reduceNe, Int.reduceLE, Int.reduceLT, reduceCtorEq, ↓reduceIte, atC]
            refine ⟨by omega, by omega, by omega, by omega, getM_nat hat ?_⟩
            simp only [vx, vz, Nat.reduceAdd, Nat.reduceSub, Nat.reduceMul, Nat.reduceLeDiff, Nat.reduceLT, Nat.reduceEqDiff, Nat.reduceBEq, Int.reduceToNat, Int.reduceNeg, Int.reduceEq, Int.reduceNe, Int.reduceLE, Int.reduceLT, reduceCtorEq, ↓reduceIte, atC]
            have hse := at_set (ls := incI ls i) (i := i) (k := p.2 + 1) (s := p.1)
            rw [hset] at hse
            rw [wr_i64 (n := (p.2 : Int) + 1) (by omega) (by omega), show (p.2 : Int) + 1 = ((p.2 + 1 : Nat) : Int) from rfl, hse]
            refine ls_n (i + 1) (by omega) (weak_any ?_) (by omega)
            simp only [vx, vz, Nat.reduceAdd, Nat.reduceSub, Nat.reduceMul, Nat.reduceLeDiff, Nat.reduceLT, Nat.reduceEqDiff, Nat.reduceBEq, Int.reduceToNat, Int.reduceNeg, Int.reduceEq, Int.reduceNe, Int.reduceLE, Int.reduceLT, reduceCtorEq, ↓reduceIte]
            rw [wr_i64 (by omega) (by omega)]
            try trivial
          · simp only [decide_eq_false_iff_not] at hc3
            have hset : incI ls (i + 1) = incI ls i := by
              rw [← incI_set hp, show incS p = p by rw [incS, if_neg (by omega)], set_same hat]
            simp only [vx, vz, Nat.reduceAdd, Nat.reduceSub, Nat.reduceMul, Nat.reduceLeDiff, Nat.reduceLT, Nat.reduceEqDiff, Nat.reduceBEq, Int.reduceToNat, Int.reduceNeg, Int.reduceEq, Int.reduceNe, Int.reduceLE, Int.reduceLT, reduceCtorEq, ↓reduceIte]
            refine ls_n (i + 1) (by omega) ?_ (by omega)
            simp only [hset]
            refine weak_any ?_
            simp only [vx, vz, Nat.reduceAdd, Nat.reduceSub, Nat.reduceMul, Nat.reduceLeDiff, Nat.reduceLT, Nat.reduceEqDiff, Nat.reduceBEq, Int.reduceToNat, Int.reduceNeg, Int.reduceEq, Int.reduceNe, Int.reduceLE, Int.reduceLT, reduceCtorEq, ↓reduceIte]
            rw [wr_i64 (by omega) (by omega)]
            try trivial
        · simp only [decide_eq_false_iff_not] at hc2
          rw [incI_end (by omega)]
          simp only [vx, vz, Nat.reduceAdd, Nat.reduceSub, Nat.reduceMul, Nat.reduceLeDiff, Nat.reduceLT, Nat.reduceEqDiff, Nat.reduceBEq, Int.reduceToNat, Int.reduceNeg, Int.reduceEq, Int.reduceNe, Int.reduceLE, Int.reduceLT, reduceCtorEq, ↓reduceIte]
          refine ls_n (out ++ [idl], ls.map incS, n) (show n < n + 1 by omega) (weak_any ?_) ⟨okI_inc h1, show rem (ls.map incS) ≤ n by omega, show (out ++ [idl]).length + n ≤ 400 by simp; omega, by rw [← h4]; simp⟩
          simp only [vx, vz, Nat.reduceAdd, Nat.reduceSub, Nat.reduceMul, Nat.reduceLeDiff, Nat.reduceLT, Nat.reduceEqDiff, Nat.reduceBEq, Int.reduceToNat, Int.reduceNeg, Int.reduceEq, Int.reduceNe, Int.reduceLE, Int.reduceLT, reduceCtorEq, ↓reduceIte]
          try trivial
      · obtain ⟨x, hx, hxi⟩ := busy_some hb
        rw [Nat.zero_add] at hi
        have hpl := okI_mem h1 hp
        have hil := (List.getElem?_eq_some_iff.1 hp).1
        have hxl := (List.getElem?_eq_some_iff.1 hx).1
        have hps := hl.2 p.1 (List.mem_of_getElem? hpl)
        have hrm := rem_busy hp hx
        obtain ⟨n, rfl⟩ : ∃ m, n = m + 1 := ⟨n - 1, by omega⟩
        rw [fr_busy hi hp hx] at h4
        rw [hi]
        simp only [vx, vz, Nat.reduceAdd, Nat.reduceSub, Nat.reduceMul, Nat.reduceLeDiff, Nat.reduceLT, Nat.reduceEqDiff, Nat.reduceBEq, Int.reduceToNat, Int.reduceNeg, Int.reduceEq, Int.reduceNe, Int.reduceLE, Int.reduceLT, reduceCtorEq, ↓reduceIte, dt (show (0 : Int) ≤ i by omega)]
        refine c_draw ?_
        simp only [vx, vz, Nat.reduceAdd, Nat.reduceSub, Nat.reduceMul, Nat.reduceLeDiff, Nat.reduceLT, Nat.reduceEqDiff, Nat.reduceBEq, Int.reduceToNat, Int.reduceNeg, Int.reduceEq, Int.reduceNe, Int.reduceLE, Int.reduceLT, reduceCtorEq, ↓reduceIte]
        repeat (refine d_k rfl rfl ?_; simp only [vx, vz, Nat.reduceAdd, Nat.reduceSub, Nat.reduceMul, Nat.reduceLeDiff, Nat.reduceLT, Nat.reduceEqDiff, Nat.reduceBEq, Int.reduceToNat, Int.reduceNeg, Int.reduceEq, Int.reduceNe, Int.reduceLE, Int.reduceLT, reduceCtorEq, ↓reduceIte])
        refine ⟨by omega, by omega, getM_at hpl ?_⟩
        simp only [vx, vz, Nat.reduceAdd, Nat.reduceSub, Nat.reduceMul, Nat.reduceLeDiff, Nat.reduceLT, Nat.reduceEqDiff, Nat.reduceBEq, Int.reduceToNat, Int.reduceNeg, Int.reduceEq, Int.reduceNe, Int.reduceLE, Int.reduceLT, reduceCtorEq, ↓reduceIte]
        simp only [vx, vz, Nat.reduceAdd, Nat.reduceSub, Nat.reduceMul, Nat.reduceLeDiff, Nat.reduceLT, Nat.reduceEqDiff, Nat.reduceBEq, Int.reduceToNat, Int.reduceNeg, Int.reduceEq, Int.reduceNe, Int.reduceLE, Int.reduceLT, reduceCtorEq, ↓reduceIte, stD]
        repeat (refine d_k rfl rfl ?_; simp only [vx, vz, Nat.reduceAdd, Nat.reduceSub, Nat.reduceMul, Nat.reduceLeDiff, Nat.reduceLT, Nat.reduceEqDiff, Nat.reduceBEq, Int.reduceToNat, Int.reduceNeg, Int.reduceEq, Int.reduceNe, Int.reduceLE, Int.reduceLT, reduceCtorEq, ↓reduceIte])
        refine ⟨by omega, by omega, hlen, ?_⟩
        repeat (refine d_k rfl rfl ?_; simp only [vx, vz, Nat.reduceAdd, Nat.reduceSub, Nat.reduceMul, Nat.reduceLeDiff, Nat.reduceLT, Nat.reduceEqDiff, Nat.reduceBEq, Int.reduceToNat, Int.reduceNeg, Int.reduceEq, Int.reduceNe, Int.reduceLE, Int.reduceLT, reduceCtorEq, ↓reduceIte])
        refine ⟨hlen, getM_nat hp ?_⟩
        simp only [vx, vz, Nat.reduceAdd, Nat.reduceSub, Nat.reduceMul, Nat.reduceLeDiff, Nat.reduceLT, Nat.reduceEqDiff, Nat.reduceBEq, Int.reduceToNat, Int.reduceNeg, Int.reduceEq, Int.reduceNe, Int.reduceLE, Int.reduceLT, reduceCtorEq, ↓reduceIte, atC]
        repeat (refine d_k rfl rfl ?_; simp only [vx, vz, Nat.reduceAdd, Nat.reduceSub, Nat.reduceMul, Nat.reduceLeDiff, Nat.reduceLT, Nat.reduceEqDiff, Nat.reduceBEq, Int.reduceToNat, Int.reduceNeg, Int.reduceEq, Int.reduceNe, Int.reduceLE, Int.reduceLT, reduceCtorEq, ↓reduceIte])
        refine ⟨by omega, by omega, getM_nat hx ?_⟩
        simp only [vx, vz, Nat.reduceAdd, Nat.reduceSub, Nat.reduceMul, Nat.reduceLeDiff, Nat.reduceLT, Nat.reduceEqDiff, Nat.reduceBEq, Int.reduceToNat, Int.reduceNeg, Int.reduceEq, Int.reduceNe, Int.reduceLE, Int.reduceLT, reduceCtorEq, ↓reduceIte, slD]
        repeat (refine d_k rfl rfl ?_; simp only [vx, vz, Nat.reduceAdd, Nat.reduceSub, Nat.reduceMul, Nat.reduceLeDiff, Nat.reduceLT, Nat.reduceEqDiff, Nat.reduceBEq, Int.reduceToNat, Int.reduceNeg, Int.reduceEq, Int.reduceNe, Int.reduceLE, Int.reduceLT, reduceCtorEq, ↓reduceIte])
        refine ⟨by unfold maxBytes; omega, ?_⟩
        repeat (refine d_k rfl rfl ?_; simp only [vx, vz, Nat.reduceAdd, Nat.reduceSub, Nat.reduceMul, Nat.reduceLeDiff, Nat.reduceLT, Nat.reduceEqDiff, Nat.reduceBEq, Int.reduceToNat, Int.reduceNeg, Int.reduceEq, Int.reduceNe, Int.reduceLE, Int.reduceLT, reduceCtorEq, ↓reduceIte])
        refine ⟨by omega, by omega, hlen, hlen, getM_nat hp ?_⟩
        simp only [vx, vz, Nat.reduceAdd, Nat.reduceSub, Nat.reduceMul, Nat.reduceLeDiff, Nat.reduceLT, Nat.reduceEqDiff, Nat.reduceBEq, Int.reduceToNat, Int.reduceNeg, Int.reduceEq, Int.reduceNe, Int.reduceLE, Int.reduceLT, reduceCtorEq, ↓reduceIte, atC]
        refine ⟨by omega, by omega, hlen, hlen, getM_nat hp ?_⟩
        simp only [vx, vz, Nat.reduceAdd, Nat.reduceSub, Nat.reduceMul, Nat.reduceLeDiff, Nat.reduceLT, Nat.reduceEqDiff, Nat.reduceBEq, Int.reduceToNat, Int.reduceNeg, Int.reduceEq, Int.reduceNe, Int.reduceLE, Int.reduceLT, reduceCtorEq, ↓reduceIte, atC]
        have hse := at_set (ls := ls) (i := i) (k := p.2 + 1) (s := p.1)
        rw [wr_i64 (n := (p.2 : Int) + 1) (by omega) (by omega), show (p.2 : Int) + 1 = ((p.2 + 1 : Nat) : Int) from rfl, hse]
        refine ls_n (out ++ [x], ls.set i (adv p), n) (show n < n + 1 by omega) (Weak.trans (weak_any ?_) (weak_frz2 2 (by omega) ⟨.same _ ?_, ?_, trivial⟩ (kpL_refl ?_))) ⟨okI_set h1 hp, show rem (ls.set i (adv p)) ≤ n by omega, show (out ++ [x]).length + n ≤ 400 by simp; omega, by rw [← h4]; simp⟩
        · simp only [vx, vz, Nat.reduceAdd, Nat.reduceSub, Nat.reduceMul, Nat.reduceLeDiff, Nat.reduceLT, Nat.reduceEqDiff, Nat.reduceBEq, Int.reduceToNat, Int.reduceNeg, Int.reduceEq, Int.reduceNe, Int.reduceLE, Int.reduceLT, reduceCtorEq, ↓reduceIte]
          try trivial
        · intro e he v hv
          obtain ⟨p, _, rfl⟩ := List.mem_map.1 he
          simp [atC] at hv
          subst hv; rfl
        · show RowK _ _ _ (.live 4 (((out ++ [x]).map slD).map (·.map .d)))
          rw [show (out ++ [x]).map slD = out.map slD ++ [slD x] by rw [List.map_append]; rfl]
          exact rowK_snoc (x := slD x) ⟨.same _ rfl, .same _ rfl, .same _ rfl, .same _ rfl, trivial⟩
        · rfl
end Go.Proofs.Ar

namespace Go.Proofs.Ar
open Go.Vx
theorem t42 (a : List B) (b : List Int) (ha : a.length ≤ 10) (hb : b.length ≤ 10) : CallP Try.prog 42 [.agg [.d (.sl 1 (a.map sD)), .d (.sl 1 (b.map iD))], .agg [.d (.sl 1 (a.map sD)), .d (.sl 1 (b.map iD))]] (.d (.bool true)) := by
  refine go42 ac42 rfl ?_
  simp only [vx, vz, Nat.reduceAdd, Nat.reduceSub, Nat.reduceMul, Nat.reduceLeDiff, Nat.reduceLT, Nat.reduceEqDiff, Nat.reduceBEq, Int.reduceToNat, Int.reduceNeg, Int.reduceEq, Int.reduceNe, Int.reduceLE, Int.reduceLT, reduceCtorEq, ↓reduceIte, ac42]
  refine loop_st (fun i : Nat => ⟨mkF 59 [(2, .optr 2 0 1 0 0), (3, .optr 2 1 1 0 0), (5, .d (.int .i64 i))], [.live 2 [[.d (.sl 1 (a.map sD)), .d (.sl 1 (b.map iD))]], .live 2 [[.d (.sl 1 (a.map sD)), .d (.sl 1 (b.map iD))]]]⟩) (fun i => i ≤ a.length) (fun i => a.length - i) 0 (weak_any (by simp only [vx, vz, Nat.reduceAdd, Nat.reduceSub, Nat.reduceMul, Nat.reduceLeDiff, Nat.reduceLT, Nat.reduceEqDiff, Nat.reduceBEq, Int.reduceToNat, Int.reduceNeg, Int.reduceEq, Int.reduceNe, Int.reduceLE, Int.reduceLT, reduceCtorEq, ↓reduceIte]; try trivial)) (by omega) (fun i hi => ?_)
  simp only [vx, vz, Nat.reduceAdd, Nat.reduceSub, Nat.reduceMul, Nat.reduceLeDiff, Nat.reduceLT, Nat.reduceEqDiff, Nat.reduceBEq, Int.reduceToNat, Int.reduceNeg, Int.reduceEq, Int.reduceNe, Int.reduceLE, Int.reduceLT, reduceCtorEq, ↓reduceIte]
  refine cond_split (fun hc => ?_) (fun hc => ?_)
  · simp only [decide_eq_true_eq] at hc
    obtain ⟨x, hx⟩ := get_ex (l := a) (i := i) (by omega)
    simp only [vx, vz, Nat.reduceAdd, Nat.reduceSub, Nat.reduceMul, Nat.reduceLeDiff, Nat.reduceLT, Nat.reduceEqDiff, Nat.reduceBEq, Int.reduceToNat, Int.reduceNeg, Int.reduceEq, Int.reduceNe, Int.reduceLE, Int.reduceLT, reduceCtorEq, ↓reduceIte]
    refine c_quiet rfl ?_
    simp only [vx, vz, Nat.reduceAdd, Nat.reduceSub, Nat.reduceMul, Nat.reduceLeDiff, Nat.reduceLT, Nat.reduceEqDiff, Nat.reduceBEq, Int.reduceToNat, Int.reduceNeg, Int.reduceEq, Int.reduceNe, Int.reduceLE, Int.reduceLT, reduceCtorEq, ↓reduceIte]
    refine ⟨by omega, by omega, getM_at hx ?_⟩
    simp only [vx, vz, Nat.reduceAdd, Nat.reduceSub, Nat.reduceMul, Nat.reduceLeDiff, Nat.reduceLT, Nat.reduceEqDiff, Nat.reduceBEq, Int.reduceToNat, Int.reduceNeg, Int.reduceEq, Int.reduceNe, Int.reduceLE, Int.reduceLT, reduceCtorEq, ↓reduceIte]
    simp only [vx, vz, Nat.reduceAdd, Nat.reduceSub, Nat.reduceMul, Nat.reduceLeDiff, Nat.reduceLT, Nat.reduceEqDiff, Nat.reduceBEq, Int.reduceToNat, Int.reduceNeg, Int.reduceEq, Int.reduceNe, Int.reduceLE, Int.reduceLT, reduceCtorEq, ↓reduceIte, sD]
    refine ⟨by omega, by omega, getM_at hx ?_⟩
    simp only [vx, vz, Nat.reduceAdd, Nat.reduceSub, Nat.reduceMul, Nat.reduceLeDiff, Nat.reduceLT, Nat.reduceEqDiff, Nat.reduceBEq, Int.reduceToNat, Int.reduceNeg, Int.reduceEq, Int.reduceNe, Int.reduceLE, Int.reduceLT, reduceCtorEq, ↓reduceIte]
    simp only [vx, vz, Nat.reduceAdd, Nat.reduceSub, Nat.reduceMul, Nat.reduceLeDiff, Nat.reduceLT, Nat.reduceEqDiff, Nat.reduceBEq, Int.reduceToNat, Int.reduceNeg, Int.reduceEq, Int.reduceNe, Int.reduceLE, Int.reduceLT, reduceCtorEq, ↓reduceIte, sD]
    refine ls_n (i + 1) (by omega) (weak_any ?_) (by omega)
    simp only [vx, vz, Nat.reduceAdd, Nat.reduceSub, Nat.reduceMul, Nat.reduceLeDiff, Nat.reduceLT, Nat.reduceEqDiff, Nat.reduceBEq, Int.reduceToNat, Int.reduceNeg, Int.reduceEq, Int.reduceNe, Int.reduceLE, Int.reduceLT, reduceCtorEq, ↓reduceIte]
    rw [wr_i64 (by omega) (by omega)]
    try trivial
  · simp only [vx, vz, Nat.reduceAdd, Nat.reduceSub, Nat.reduceMul, Nat.reduceLeDiff, Nat.reduceLT, Nat.reduceEqDiff, Nat.reduceBEq, Int.reduceToNat, Int.reduceNeg, Int.reduceEq, Int.reduceNe, Int.reduceLE, Int.reduceLT, reduceCtorEq, ↓reduceIte]
    refine loop_st (fun i : Nat => ⟨mkF 59 [(2, .optr 2 0 1 0 0), (3, .optr 2 1 1 0 0), (6, .d (.int .i64 i))], [.live 2 [[.d (.sl 1 (a.map sD)), .d (.sl 1 (b.map iD))]], .live 2 [[.d (.sl 1 (a.map sD)), .d (.sl 1 (b.map iD))]]]⟩) (fun i => i ≤ b.length) (fun i => b.length - i) 0 (weak_any (by simp only [vx, vz, Nat.reduceAdd, Nat.reduceSub, Nat.reduceMul, Nat.reduceLeDiff, Nat.reduceLT, Nat.reduceEqDiff, Nat.reduceBEq, Int.reduceToNat, Int.reduceNeg, Int.reduceEq, Int.reduceNe, Int.reduceLE, Int.reduceLT, reduceCtorEq, ↓reduceIte]; try trivial)) (by omega) (fun i hi => ?_)
    simp only [vx, vz, Nat.reduceAdd, Nat.reduceSub, Nat.reduceMul, Nat.reduceLeDiff, Nat.reduceLT, Nat.reduceEqDiff, Nat.reduceBEq, Int.reduceToNat, Int.reduceNeg, Int.reduceEq, Int.reduceNe, Int.reduceLE, Int.reduceLT, reduceCtorEq, ↓reduceIte]
    refine cond_split (fun hc => ?_) (fun hc => ?_)
    · simp only [decide_eq_true_eq] at hc
      obtain ⟨x, hx⟩ := get_ex (l := b) (i := i) (by omega)
      simp only [vx, vz, Nat.reduceAdd, Nat.reduceSub, Nat.reduceMul, Nat.reduceLeDiff, Nat.reduceLT, Nat.reduceEqDiff, Nat.reduceBEq, Int.reduceToNat, Int.reduceNeg, Int.reduceEq, Int.reduceNe, Int.reduceLE, Int.reduceLT, reduceCtorEq, ↓reduceIte]
      refine c_quiet rfl ?_
      simp only [vx, vz, Nat.reduceAdd, Nat.reduceSub, Nat.reduceMul, Nat.reduceLeDiff, Nat.reduceLT, Nat.reduceEqDiff, Nat.reduceBEq, Int.reduceToNat, Int.reduceNeg, Int.reduceEq, Int.reduceNe, Int.reduceLE, Int.reduceLT, reduceCtorEq, ↓reduceIte]
      refine ⟨by omega, by omega, getM_at hx ?_⟩
      simp only [vx, vz, Nat.reduceAdd, Nat.reduceSub, Nat.reduceMul, Nat.reduceLeDiff, Nat.reduceLT, Nat.reduceEqDiff, Nat.reduceBEq, Int.reduceToNat, Int.reduceNeg, Int.reduceEq, Int.reduceNe, Int.reduceLE, Int.reduceLT, reduceCtorEq, ↓reduceIte]
      simp only [vx, vz, Nat.reduceAdd, Nat.reduceSub, Nat.reduceMul, Nat.reduceLeDiff, Nat.reduceLT, Nat.reduceEqDiff, Nat.reduceBEq, Int.reduceToNat, Int.reduceNeg, Int.reduceEq, Int.reduceNe, Int.reduceLE, Int.reduceLT, reduceCtorEq, ↓reduceIte, iD]
      refine ⟨by omega, by omega, getM_at hx ?_⟩
      simp only [vx, vz, Nat.reduceAdd, Nat.reduceSub, Nat.reduceMul, Nat.reduceLeDiff, Nat.reduceLT, Nat.reduceEqDiff, Nat.reduceBEq, Int.reduceToNat, Int.reduceNeg, Int.reduceEq, Int.reduceNe, Int.reduceLE, Int.reduceLT, reduceCtorEq, ↓reduceIte]
      simp only [vx, vz, Nat.reduceAdd, Nat.reduceSub, Nat.reduceMul, Nat.reduceLeDiff, Nat.reduceLT, Nat.reduceEqDiff, Nat.reduceBEq, Int.reduceToNat, Int.reduceNeg, Int.reduceEq, Int.reduceNe, Int.reduceLE, Int.reduceLT, reduceCtorEq, ↓reduceIte, iD]
      refine ls_n (i + 1) (by omega) (weak_any ?_) (by omega)
      simp only [vx, vz, Nat.reduceAdd, Nat.reduceSub, Nat.reduceMul, Nat.reduceLeDiff, Nat.reduceLT, Nat.reduceEqDiff, Nat.reduceBEq, Int.reduceToNat, Int.reduceNeg, Int.reduceEq, Int.reduceNe, Int.reduceLE, Int.reduceLT, reduceCtorEq, ↓reduceIte]
      rw [wr_i64 (by omega) (by omega)]
      try trivial
    · simp only [vx, vz, Nat.reduceAdd, Nat.reduceSub, Nat.reduceMul, Nat.reduceLeDiff, Nat.reduceLT, Nat.reduceEqDiff, Nat.reduceBEq, Int.reduceToNat, Int.reduceNeg, Int.reduceEq, Int.reduceNe, Int.reduceLE, Int.reduceLT, reduceCtorEq, ↓reduceIte]
theorem t31 (s : Sl) (ok : okS s) : CallP Try.prog 31 [slV s, slV s] (.d (.bool true)) := by
  refine go31 ac31 rfl ?_
  simp only [vx, vz, Nat.reduceAdd, Nat.reduceSub, Nat.reduceMul, Nat.reduceLeDiff, Nat.reduceLT, Nat.reduceEqDiff, Nat.reduceBEq, Int.reduceToNat, Int.reduceNeg, Int.reduceEq, Int.reduceNe, Int.reduceLE, Int.reduceLT, reduceCtorEq, ↓reduceIte, ac31]
  refine call_p rfl (t42 s.2.1 s.2.2.1 ok.1 ok.2) ?_
  simp only [vx, vz, Nat.reduceAdd, Nat.reduceSub, Nat.reduceMul, Nat.reduceLeDiff, Nat.reduceLT, Nat.reduceEqDiff, Nat.reduceBEq, Int.reduceToNat, Int.reduceNeg, Int.reduceEq, Int.reduceNe, Int.reduceLE, Int.reduceLT, reduceCtorEq, ↓reduceIte]
theorem t12 (l : List Sl) (hl : l.length ≤ 1000) (ok : ∀ x ∈ l, okS x) : CallP Try.prog 12 [stV l, stV l] (.d (.bool true)) := by
  refine go12 ac12 rfl ?_
  simp only [vx, vz, Nat.reduceAdd, Nat.reduceSub, Nat.reduceMul, Nat.reduceLeDiff, Nat.reduceLT, Nat.reduceEqDiff, Nat.reduceBEq, Int.reduceToNat, Int.reduceNeg, Int.reduceEq, Int.reduceNe, Int.reduceLE, Int.reduceLT, reduceCtorEq, ↓reduceIte, ac12]
  refine loop_st (fun i : Nat => ⟨mkF 27 [(0, stV l), (1, stV l), (5, .d (.int .i64 i))], []⟩) (fun i => i ≤ l.length) (fun i => l.length - i) 0 (weak_any (by simp only [vx, vz, Nat.reduceAdd, Nat.reduceSub, Nat.reduceMul, Nat.reduceLeDiff, Nat.reduceLT, Nat.reduceEqDiff, Nat.reduceBEq, Int.reduceToNat, Int.reduceNeg, Int.reduceEq, Int.reduceNe, Int.reduceLE, Int.reduceLT, reduceCtorEq, ↓reduceIte]; try trivial)) (by omega) (fun i hi => ?_)
  simp only [vx, vz, Nat.reduceAdd, Nat.reduceSub, Nat.reduceMul, Nat.reduceLeDiff, Nat.reduceLT, Nat.reduceEqDiff, Nat.reduceBEq, Int.reduceToNat, Int.reduceNeg, Int.reduceEq, Int.reduceNe, Int.reduceLE, Int.reduceLT, reduceCtorEq, ↓reduceIte]
  refine cond_split (fun hc => ?_) (fun hc => ?_)
  · simp only [decide_eq_true_eq] at hc
    obtain ⟨x, hx⟩ := get_ex (l := l) (i := i) (by omega)
    simp only [vx, vz, Nat.reduceAdd, Nat.reduceSub, Nat.reduceMul, Nat.reduceLeDiff, Nat.reduceLT, Nat.reduceEqDiff, Nat.reduceBEq, Int.reduceToNat, Int.reduceNeg, Int.reduceEq, Int.reduceNe, Int.reduceLE, Int.reduceLT, reduceCtorEq, ↓reduceIte]
    refine c_quiet rfl ?_
    simp only [vx, vz, Nat.reduceAdd, Nat.reduceSub, Nat.reduceMul, Nat.reduceLeDiff, Nat.reduceLT, Nat.reduceEqDiff, Nat.reduceBEq, Int.reduceToNat, Int.reduceNeg, Int.reduceEq, Int.reduceNe, Int.reduceLE, Int.reduceLT, reduceCtorEq, ↓reduceIte]
    refine ⟨by omega, by omega, getM_at hx ?_⟩
    simp only [vx, vz, Nat.reduceAdd, Nat.reduceSub, Nat.reduceMul, Nat.reduceLeDiff, Nat.reduceLT, Nat.reduceEqDiff, Nat.reduceBEq, Int.reduceToNat, Int.reduceNeg, Int.reduceEq, Int.reduceNe, Int.reduceLE, Int.reduceLT, reduceCtorEq, ↓reduceIte]
    simp only [vx, vz, Nat.reduceAdd, Nat.reduceSub, Nat.reduceMul, Nat.reduceLeDiff, Nat.reduceLT, Nat.reduceEqDiff, Nat.reduceBEq, Int.reduceToNat, Int.reduceNeg, Int.reduceEq, Int.reduceNe, Int.reduceLE, Int.reduceLT, reduceCtorEq, ↓reduceIte, slD]
    refine ⟨by omega, by omega, getM_at hx ?_⟩
    simp only [vx, vz, Nat.reduceAdd, Nat.reduceSub, Nat.reduceMul, Nat.reduceLeDiff, Nat.reduceLT, Nat.reduceEqDiff, Nat.reduceBEq, Int.reduceToNat, Int.reduceNeg, Int.reduceEq, Int.reduceNe, Int.reduceLE, Int.reduceLT, reduceCtorEq, ↓reduceIte]
    simp only [vx, vz, Nat.reduceAdd, Nat.reduceSub, Nat.reduceMul, Nat.reduceLeDiff, Nat.reduceLT, Nat.reduceEqDiff, Nat.reduceBEq, Int.reduceToNat, Int.reduceNeg, Int.reduceEq, Int.reduceNe, Int.reduceLE, Int.reduceLT, reduceCtorEq, ↓reduceIte, slD]
    refine call_p rfl (t31 x (ok x (List.mem_of_getElem? hx))) ?_
    simp only [vx, vz, Nat.reduceAdd, Nat.reduceSub, Nat.reduceMul, Nat.reduceLeDiff, Nat.reduceLT, Nat.reduceEqDiff, Nat.reduceBEq, Int.reduceToNat, Int.reduceNeg, Int.reduceEq, Int.reduceNe, Int.reduceLE, Int.reduceLT, reduceCtorEq, ↓reduceIte]
    refine ls_n (i + 1) (by omega) (weak_any ?_) (by omega)
    simp only [vx, vz, Nat.reduceAdd, Nat.reduceSub, Nat.reduceMul, Nat.reduceLeDiff, Nat.reduceLT, Nat.reduceEqDiff, Nat.reduceBEq, Int.reduceToNat, Int.reduceNeg, Int.reduceEq, Int.reduceNe, Int.reduceLE, Int.reduceLT, reduceCtorEq, ↓reduceIte]
    rw [wr_i64 (by omega) (by omega)]
    try trivial
  · simp only [vx, vz, Nat.reduceAdd, Nat.reduceSub, Nat.reduceMul, Nat.reduceLeDiff, Nat.reduceLT, Nat.reduceEqDiff, Nat.reduceBEq, Int.reduceToNat, Int.reduceNeg, Int.reduceEq, Int.reduceNe, Int.reduceLE, Int.reduceLT, reduceCtorEq, ↓reduceIte]
def onlyS (l : List Sl) : List Sl := l.filter fun s => !s.1
theorem only_snoc {l : List Sl} {i : Nat} {x : Sl} (h : l[i]? = some x) : onlyS (l.take (i + 1)) = if x.1 then onlyS (l.take i) else onlyS (l.take i) ++ [x] := by
  rw [take_at h, onlyS, List.filter_append]
  cases hx : x.1 <;> simp [onlyS, hx]
theorem only_len {l : List Sl} {i : Nat} : (onlyS (l.take i)).length ≤ l.length := by
  refine Nat.le_trans (List.length_filter_le _ _) ?_
  rw [List.length_take]; omega
theorem rowK_sl {m : Nat} {rows : Go.Vx.Rows} {l : List Sl} {x : Sl} : RowK m rows (.live 4 ((l.map slD).map (·.map .d) ++ [[.d (.bool x.1), .d (.sl 1 (x.2.1.map sD)), .d (.sl 1 (x.2.2.1.map iD)), .d (.str x.2.2.2)]])) (.live 4 (((l ++ [x]).map slD).map (·.map .d))) := by
  rw [show (l ++ [x]).map slD = l.map slD ++ [slD x] by rw [List.map_append]; rfl]
  exact rowK_snoc (x := slD x) ⟨.same _ rfl, .same _ rfl, .same _ rfl, .same _ rfl, trivial⟩
theorem t16 (l : List Sl) (hl : l.length ≤ 1000) : CallP Try.prog 16 [stV l] (stV (onlyS l)) := by
  refine go16 ac16 rfl ?_
  simp only [vx, vz, Nat.reduceAdd, Nat.reduceSub, Nat.reduceMul, Nat.reduceLeDiff, Nat.reduceLT, Nat.reduceEqDiff, Nat.reduceBEq, Int.reduceToNat, Int.reduceNeg, Int.reduceEq, Int.reduceNe, Int.reduceLE, Int.reduceLT, reduceCtorEq, ↓reduceIte, ac16]
  refine loop_st (fun i : Nat => ⟨mkF 25 [(0, stV l), (3, .osl 4 0 (onlyS (l.take i)).length 0 (onlyS (l.take i)).length), (4, .d (.int .i64 i))], [.live 4 (((onlyS (l.take i)).map slD).map (·.map .d))]⟩) (fun i => i ≤ l.length) (fun i => l.length - i) 0 (Weak.trans (weak_nils 3 4 rfl) (weak_any (by simp only [vx, vz, Nat.reduceAdd, Nat.reduceSub, Nat.reduceMul, Nat.reduceLeDiff, Nat.reduceLT, Nat.reduceEqDiff, Nat.reduceBEq, Int.reduceToNat, Int.reduceNeg, Int.reduceEq, Int.reduceNe, Int.reduceLE, Int.reduceLT, reduceCtorEq, ↓reduceIte]; try trivial))) (by omega) (fun i hi => ?_)
  have hol := only_len (l := l) (i := i)
  simp only [vx, vz, Nat.reduceAdd, Nat.reduceSub, Nat.reduceMul, Nat.reduceLeDiff, Nat.reduceLT, Nat.reduceEqDiff, Nat.reduceBEq, Int.reduceToNat, Int.reduceNeg, Int.reduceEq, Int.reduceNe, Int.reduceLE, Int.reduceLT, reduceCtorEq, ↓reduceIte]
  refine cond_split (fun hc => ?_) (fun hc => ?_)
  · simp only [decide_eq_true_eq] at hc
    obtain ⟨x, hx⟩ := get_ex (l := l) (i := i) (by omega)
    have es := only_snoc hx
    simp only [vx, vz, Nat.reduceAdd, Nat.reduceSub, Nat.reduceMul, Nat.reduceLeDiff, Nat.reduceLT, Nat.reduceEqDiff, Nat.reduceBEq, Int.reduceToNat, Int.reduceNeg, Int.reduceEq, Int.reduceNe, Int.reduceLE, Int.reduceLT, reduceCtorEq, ↓reduceIte]
    refine ⟨by omega, by omega, getM_at hx ?_⟩
    simp only [vx, vz, Nat.reduceAdd, Nat.reduceSub, Nat.reduceMul, Nat.reduceLeDiff, Nat.reduceLT, Nat.reduceEqDiff, Nat.reduceBEq, Int.reduceToNat, Int.reduceNeg, Int.reduceEq, Int.reduceNe, Int.reduceLE, Int.reduceLT, reduceCtorEq, ↓reduceIte]
    simp only [vx, vz, Nat.reduceAdd, Nat.reduceSub, Nat.reduceMul, Nat.reduceLeDiff, Nat.reduceLT, Nat.reduceEqDiff, Nat.reduceBEq, Int.reduceToNat, Int.reduceNeg, Int.reduceEq, Int.reduceNe, Int.reduceLE, Int.reduceLT, reduceCtorEq, ↓reduceIte, slD]
    cases hxi : x.1 with
    | true =>
      rw [hxi, if_pos rfl] at es
      simp only [vx, vz, Nat.reduceAdd, Nat.reduceSub, Nat.reduceMul, Nat.reduceLeDiff, Nat.reduceLT, Nat.reduceEqDiff, Nat.reduceBEq, Int.reduceToNat, Int.reduceNeg, Int.reduceEq, Int.reduceNe, Int.reduceLE, Int.reduceLT, reduceCtorEq, ↓reduceIte]
      refine ls_n (i + 1) (by omega) ?_ (by omega)
      simp only [es]
      refine weak_any ?_
      simp only [vx, vz, Nat.reduceAdd, Nat.reduceSub, Nat.reduceMul, Nat.reduceLeDiff, Nat.reduceLT, Nat.reduceEqDiff, Nat.reduceBEq, Int.reduceToNat, Int.reduceNeg, Int.reduceEq, Int.reduceNe, Int.reduceLE, Int.reduceLT, reduceCtorEq, ↓reduceIte]
      rw [wr_i64 (by omega) (by omega)]
      try trivial
    | false =>
      rw [hxi, if_neg (by decide)] at es
      simp only [vx, vz, Nat.reduceAdd, Nat.reduceSub, Nat.reduceMul, Nat.reduceLeDiff, Nat.reduceLT, Nat.reduceEqDiff, Nat.reduceBEq, Int.reduceToNat, Int.reduceNeg, Int.reduceEq, Int.reduceNe, Int.reduceLE, Int.reduceLT, reduceCtorEq, ↓reduceIte]
      refine ⟨by omega, by omega, getM_at hx ?_⟩
      simp only [vx, vz, Nat.reduceAdd, Nat.reduceSub, Nat.reduceMul, Nat.reduceLeDiff, Nat.reduceLT, Nat.reduceEqDiff, Nat.reduceBEq, Int.reduceToNat, Int.reduceNeg, Int.reduceEq, Int.reduceNe, Int.reduceLE, Int.reduceLT, reduceCtorEq, ↓reduceIte]
      simp only [vx, vz, Nat.reduceAdd, Nat.reduceSub, Nat.reduceMul, Nat.reduceLeDiff, Nat.reduceLT, Nat.reduceEqDiff, Nat.reduceBEq, Int.reduceToNat, Int.reduceNeg, Int.reduceEq, Int.reduceNe, Int.reduceLE, Int.reduceLT, reduceCtorEq, ↓reduceIte, slD]
      refine ⟨by unfold maxBytes; omega, ?_⟩
      refine ls_n (i + 1) (by omega) (Weak.trans (weak_any ?_) (weak_frz2 1 (by omega) ⟨?_, trivial⟩ (kpL_refl ?_))) (by omega)
      · simp only [vx, vz, Nat.reduceAdd, Nat.reduceSub, Nat.reduceMul, Nat.reduceLeDiff, Nat.reduceLT, Nat.reduceEqDiff, Nat.reduceBEq, Int.reduceToNat, Int.reduceNeg, Int.reduceEq, Int.reduceNe, Int.reduceLE, Int.reduceLT, reduceCtorEq, ↓reduceIte]
        rw [wr_i64 (by omega) (by omega), es, List.length_append]
        exact ⟨rfl, rfl⟩
      · show RowK _ _ _ (.live 4 (((onlyS (l.take (i + 1))).map slD).map (·.map .d)))
        rw [es]
        exact rowK_sl
      · rfl
  · simp only [decide_eq_false_iff_not] at hc
    rw [take_end (by omega)]
    simp only [vx, vz, Nat.reduceAdd, Nat.reduceSub, Nat.reduceMul, Nat.reduceLeDiff, Nat.reduceLT, Nat.reduceEqDiff, Nat.reduceBEq, Int.reduceToNat, Int.reduceNeg, Int.reduceEq, Int.reduceNe, Int.reduceLE, Int.reduceLT, reduceCtorEq, ↓reduceIte]
    exact sn_all (es := (onlyS l).map slD) rfl (by simp) szl
theorem t35 (l : List Sl) (hl : l.length ≤ 1000) : CallP Try.prog 35 [stV l] (stV (onlyS l)) := by
  refine go35 ac35 rfl ?_
  simp only [vx, vz, Nat.reduceAdd, Nat.reduceSub, Nat.reduceMul, Nat.reduceLeDiff, Nat.reduceLT, Nat.reduceEqDiff, Nat.reduceBEq, Int.reduceToNat, Int.reduceNeg, Int.reduceEq, Int.reduceNe, Int.reduceLE, Int.reduceLT, reduceCtorEq, ↓reduceIte, ac35]
  refine loop_st (fun i : Nat => ⟨mkF 25 [(0, stV l), (3, .osl 4 0 (onlyS (l.take i)).length 0 (onlyS (l.take i)).length), (4, .d (.int .i64 i))], [.live 4 (((onlyS (l.take i)).map slD).map (·.map .d))]⟩) (fun i => i ≤ l.length) (fun i => l.length - i) 0 (Weak.trans (weak_nils 3 4 rfl) (weak_any (by simp only [vx, vz, Nat.reduceAdd, Nat.reduceSub, Nat.reduceMul, Nat.reduceLeDiff, Nat.reduceLT, Nat.reduceEqDiff, Nat.reduceBEq, Int.reduceToNat, Int.reduceNeg, Int.reduceEq, Int.reduceNe, Int.reduceLE, Int.reduceLT, reduceCtorEq, ↓reduceIte]; try trivial))) (by omega) (fun i hi => ?_)
  have hol := only_len (l := l) (i := i)
  simp only [vx, vz, Nat.reduceAdd, Nat.reduceSub, Nat.reduceMul, Nat.reduceLeDiff, Nat.reduceLT, Nat.reduceEqDiff, Nat.reduceBEq, Int.reduceToNat, Int.reduceNeg, Int.reduceEq, Int.reduceNe, Int.reduceLE, Int.reduceLT, reduceCtorEq, ↓reduceIte]
  refine cond_split (fun hc => ?_) (fun hc => ?_)
  · simp only [decide_eq_true_eq] at hc
    obtain ⟨x, hx⟩ := get_ex (l := l) (i := i) (by omega)
    have es := only_snoc hx
    simp only [vx, vz, Nat.reduceAdd, Nat.reduceSub, Nat.reduceMul, Nat.reduceLeDiff, Nat.reduceLT, Nat.reduceEqDiff, Nat.reduceBEq, Int.reduceToNat, Int.reduceNeg, Int.reduceEq, Int.reduceNe, Int.reduceLE, Int.reduceLT, reduceCtorEq, ↓reduceIte]
    refine ⟨by omega, by omega, getM_at hx ?_⟩
    simp only [vx, vz, Nat.reduceAdd, Nat.reduceSub, Nat.reduceMul, Nat.reduceLeDiff, Nat.reduceLT, Nat.reduceEqDiff, Nat.reduceBEq, Int.reduceToNat, Int.reduceNeg, Int.reduceEq, Int.reduceNe, Int.reduceLE, Int.reduceLT, reduceCtorEq, ↓reduceIte]
    simp only [vx, vz, Nat.reduceAdd, Nat.reduceSub, Nat.reduceMul, Nat.reduceLeDiff, Nat.reduceLT, Nat.reduceEqDiff, Nat.reduceBEq, Int.reduceToNat, Int.reduceNeg, Int.reduceEq, Int.reduceNe, Int.reduceLE, Int.reduceLT, reduceCtorEq, ↓reduceIte, slD]
    cases hxi : x.1 with
    | true =>
      rw [hxi, if_pos rfl] at es
      simp only [vx, vz, Nat.reduceAdd, Nat.reduceSub, Nat.reduceMul, Nat.reduceLeDiff, Nat.reduceLT, Nat.reduceEqDiff, Nat.reduceBEq, Int.reduceToNat, Int.reduceNeg, Int.reduceEq, Int.reduceNe, Int.reduceLE, Int.reduceLT, reduceCtorEq, ↓reduceIte]
      refine ls_n (i + 1) (by omega) ?_ (by omega)
      simp only [es]
      refine weak_any ?_
      simp only [vx, vz, Nat.reduceAdd, Nat.reduceSub, Nat.reduceMul, Nat.reduceLeDiff, Nat.reduceLT, Nat.reduceEqDiff, Nat.reduceBEq, Int.reduceToNat, Int.reduceNeg, Int.reduceEq, Int.reduceNe, Int.reduceLE, Int.reduceLT, reduceCtorEq, ↓reduceIte]
      rw [wr_i64 (by omega) (by omega)]
      try trivial
    | false =>
      rw [hxi, if_neg (by decide)] at es
      simp only [vx, vz, Nat.reduceAdd, Nat.reduceSub, Nat.reduceMul, Nat.reduceLeDiff, Nat.reduceLT, Nat.reduceEqDiff, Nat.reduceBEq, Int.reduceToNat, Int.reduceNeg, Int.reduceEq, Int.reduceNe, Int.reduceLE, Int.reduceLT, reduceCtorEq, ↓reduceIte]
      refine ⟨by omega, by omega, getM_at hx ?_⟩
      simp only [vx, vz, Nat.reduceAdd, Nat.reduceSub, Nat.reduceMul, Nat.reduceLeDiff, Nat.reduceLT, Nat.reduceEqDiff, Nat.reduceBEq, Int.reduceToNat, Int.reduceNeg, Int.reduceEq, Int.reduceNe, Int.reduceLE, Int.reduceLT, reduceCtorEq, ↓reduceIte]
      simp only [vx, vz, Nat.reduceAdd, Nat.reduceSub, Nat.reduceMul, Nat.reduceLeDiff, Nat.reduceLT, Nat.reduceEqDiff, Nat.reduceBEq, Int.reduceToNat, Int.reduceNeg, Int.reduceEq, Int.reduceNe, Int.reduceLE, Int.reduceLT, reduceCtorEq, ↓reduceIte, slD]
      refine ⟨by unfold maxBytes; omega, ?_⟩
      refine ls_n (i + 1) (by omega) (Weak.trans (weak_any ?_) (weak_frz2 1 (by omega) ⟨?_, trivial⟩ (kpL_refl ?_))) (by omega)
      · simp only [vx, vz, Nat.reduceAdd, Nat.reduceSub, Nat.reduceMul, Nat.reduceLeDiff, Nat.reduceLT, Nat.reduceEqDiff, Nat.reduceBEq, Int.reduceToNat, Int.reduceNeg, Int.reduceEq, Int.reduceNe, Int.reduceLE, Int.reduceLT, reduceCtorEq, ↓reduceIte]
        rw [wr_i64 (by omega) (by omega), es, List.length_append]
        exact ⟨rfl, rfl⟩
      · show RowK _ _ _ (.live 4 (((onlyS (l.take (i + 1))).map slD).map (·.map .d)))
        rw [es]
        exact rowK_sl
      · rfl
  · simp only [decide_eq_false_iff_not] at hc
    rw [take_end (by omega)]
    simp only [vx, vz, Nat.reduceAdd, Nat.reduceSub, Nat.reduceMul, Nat.reduceLeDiff, Nat.reduceLT, Nat.reduceEqDiff, Nat.reduceBEq, Int.reduceToNat, Int.reduceNeg, Int.reduceEq, Int.reduceNe, Int.reduceLE, Int.reduceLT, reduceCtorEq, ↓reduceIte]
    exact sn_all (es := (onlyS l).map slD) rfl (by simp) szl
theorem t17 (l : List Sl) (hl : l.length ≤ 1000) : CallP Try.prog 17 [stV l] (.d (.int .i64 (onlyS l).length)) := by
  refine go17 ac17 rfl ?_
  simp only [vx, vz, Nat.reduceAdd, Nat.reduceSub, Nat.reduceMul, Nat.reduceLeDiff, Nat.reduceLT, Nat.reduceEqDiff, Nat.reduceBEq, Int.reduceToNat, Int.reduceNeg, Int.reduceEq, Int.reduceNe, Int.reduceLE, Int.reduceLT, reduceCtorEq, ↓reduceIte, ac17]
  refine loop_st (fun i : Nat => ⟨mkF 19 [(3, .d (.int .i64 (onlyS (l.take i)).length)), (6, stV l), (7, .d (.int .i64 l.length)), (8, .d (.int .i64 i))], []⟩) (fun i => i ≤ l.length) (fun i => l.length - i) 0 (weak_any (by simp only [vx, vz, Nat.reduceAdd, Nat.reduceSub, Nat.reduceMul, Nat.reduceLeDiff, Nat.reduceLT, Nat.reduceEqDiff, Nat.reduceBEq, Int.reduceToNat, Int.reduceNeg, Int.reduceEq, Int.reduceNe, Int.reduceLE, Int.reduceLT, reduceCtorEq, ↓reduceIte]; try trivial)) (by omega) (fun i hi => ?_)
  have hol := only_len (l := l) (i := i)
  simp only [vx, vz, Nat.reduceAdd, Nat.reduceSub, Nat.reduceMul, Nat.reduceLeDiff, Nat.reduceLT, Nat.reduceEqDiff, Nat.reduceBEq, Int.reduceToNat, Int.reduceNeg, Int.reduceEq, Int.reduceNe, Int.reduceLE, Int.reduceLT, reduceCtorEq, ↓reduceIte]
  refine cond_split (fun hc => ?_) (fun hc => ?_)
  · simp only [decide_eq_true_eq] at hc
    obtain ⟨x, hx⟩ := get_ex (l := l) (i := i) (by omega)
    have es := only_snoc hx
    simp only [vx, vz, Nat.reduceAdd, Nat.reduceSub, Nat.reduceMul, Nat.reduceLeDiff, Nat.reduceLT, Nat.reduceEqDiff, Nat.reduceBEq, Int.reduceToNat, Int.reduceNeg, Int.reduceEq, Int.reduceNe, Int.reduceLE, Int.reduceLT, reduceCtorEq, ↓reduceIte]
    refine ⟨by omega, by omega, getM_at hx ?_⟩
    simp only [vx, vz, Nat.reduceAdd, Nat.reduceSub, Nat.reduceMul, Nat.reduceLeDiff, Nat.reduceLT, Nat.reduceEqDiff, Nat.reduceBEq, Int.reduceToNat, Int.reduceNeg, Int.reduceEq, Int.reduceNe, Int.reduceLE, Int.reduceLT, reduceCtorEq, ↓reduceIte]
    simp only [vx, vz, Nat.reduceAdd, Nat.reduceSub, Nat.reduceMul, Nat.reduceLeDiff, Nat.reduceLT, Nat.reduceEqDiff, Nat.reduceBEq, Int.reduceToNat, Int.reduceNeg, Int.reduceEq, Int.reduceNe, Int.reduceLE, Int.reduceLT, reduceCtorEq, ↓reduceIte, slD]
    cases hxi : x.1 with
    | true =>
      rw [hxi, if_pos rfl] at es
      simp only [vx, vz, Nat.reduceAdd, Nat.reduceSub, Nat.reduceMul, Nat.reduceLeDiff, Nat.reduceLT, Nat.reduceEqDiff, Nat.reduceBEq, Int.reduceToNat, Int.reduceNeg, Int.reduceEq, Int.reduceNe, Int.reduceLE, Int.reduceLT, reduceCtorEq, ↓reduceIte]
      refine ls_n (i + 1) (by omega) (Weak.trans (weak_any ?_) (weak_frz2 0 (by omega) trivial (kpL_refl ?_))) (by omega)
      · simp only [vx, vz, Nat.reduceAdd, Nat.reduceSub, Nat.reduceMul, Nat.reduceLeDiff, Nat.reduceLT, Nat.reduceEqDiff, Nat.reduceBEq, Int.reduceToNat, Int.reduceNeg, Int.reduceEq, Int.reduceNe, Int.reduceLE, Int.reduceLT, reduceCtorEq, ↓reduceIte]
        rw [wr_i64 (by omega) (by omega), es]
        exact ⟨rfl, rfl⟩
      · rfl
    | false =>
      rw [hxi, if_neg (by decide)] at es
      simp only [vx, vz, Nat.reduceAdd, Nat.reduceSub, Nat.reduceMul, Nat.reduceLeDiff, Nat.reduceLT, Nat.reduceEqDiff, Nat.reduceBEq, Int.reduceToNat, Int.reduceNeg, Int.reduceEq, Int.reduceNe, Int.reduceLE, Int.reduceLT, reduceCtorEq, ↓reduceIte]
      refine ls_n (i + 1) (by omega) (Weak.trans (weak_any ?_) (weak_frz2 0 (by omega) trivial (kpL_refl ?_))) (by omega)
      · simp only [vx, vz, Nat.reduceAdd, Nat.reduceSub, Nat.reduceMul, Nat.reduceLeDiff, Nat.reduceLT, Nat.reduceEqDiff, Nat.reduceBEq, Int.reduceToNat, Int.reduceNeg, Int.reduceEq, Int.reduceNe, Int.reduceLE, Int.reduceLT, reduceCtorEq, ↓reduceIte]
        rw [wr_i64 (by omega) (by omega), wr_i64 (by omega) (by omega), es, List.length_append]
        exact ⟨rfl, rfl⟩
      · rfl
  · simp only [decide_eq_false_iff_not] at hc
    rw [take_end (by omega)]
    simp only [vx, vz, Nat.reduceAdd, Nat.reduceSub, Nat.reduceMul, Nat.reduceLeDiff, Nat.reduceLT, Nat.reduceEqDiff, Nat.reduceBEq, Int.reduceToNat, Int.reduceNeg, Int.reduceEq, Int.reduceNe, Int.reduceLE, Int.reduceLT, reduceCtorEq, ↓reduceIte]
theorem t21 (l : List Sl) (hl : l.length ≤ 1000) : CallP Try.prog 21 [stV l] (.d (.int .i64 (onlyS l).length)) := by
  refine go21 ac21 rfl ?_
  simp only [vx, vz, Nat.reduceAdd, Nat.reduceSub, Nat.reduceMul, Nat.reduceLeDiff, Nat.reduceLT, Nat.reduceEqDiff, Nat.reduceBEq, Int.reduceToNat, Int.reduceNeg, Int.reduceEq, Int.reduceNe, Int.reduceLE, Int.reduceLT, reduceCtorEq, ↓reduceIte, ac21]
  refine call_p rfl (t35 l hl) ?_
  simp only [vx, vz, Nat.reduceAdd, Nat.reduceSub, Nat.reduceMul, Nat.reduceLeDiff, Nat.reduceLT, Nat.reduceEqDiff, Nat.reduceBEq, Int.reduceToNat, Int.reduceNeg, Int.reduceEq, Int.reduceNe, Int.reduceLE, Int.reduceLT, reduceCtorEq, ↓reduceIte]
end Go.Proofs.Ar

namespace Go.Proofs.Ar
open Go.Vx
abbrev bz (s : B) : Sl := (false, [], [], s)
theorem t26 (s : B) : CallP Try.prog 26 [.d (.str s)] (slV (bz s)) := by
  refine go26 ac26 rfl ?_
  simp only [vx, vz, Nat.reduceAdd, Nat.reduceSub, Nat.reduceMul, Nat.reduceLeDiff, Nat.reduceLT, Nat.reduceEqDiff, Nat.reduceBEq, Int.reduceToNat, Int.reduceNeg, Int.reduceEq, Int.reduceNe, Int.reduceLE, Int.reduceLT, reduceCtorEq, ↓reduceIte, ac26]
def exL : List (List Sl) := [[bz [97], bz [98]], [bz [120]]]
theorem exok : okL exL := ⟨by decide, fun s hs => by
  simp only [exL, List.mem_cons, List.not_mem_nil, or_false] at hs
  rcases hs with rfl | rfl
  · refine ⟨by decide, fun x hx => ?_⟩
    simp only [List.mem_cons, List.not_mem_nil, or_false] at hx
    rcases hx with rfl | rfl <;> exact ⟨Nat.zero_le _, Nat.zero_le _⟩
  · refine ⟨by decide, fun x hx => ?_⟩
    simp only [List.mem_cons, List.not_mem_nil, or_false] at hx
    subst hx; exact ⟨Nat.zero_le _, Nat.zero_le _⟩⟩
theorem ok3 {a b c : B} : ∀ x ∈ [bz a, bz b, bz c], okS x := fun x hx => by
  simp only [List.mem_cons, List.not_mem_nil, or_false] at hx
  rcases hx with rfl | rfl | rfl <;> exact ⟨Nat.zero_le _, Nat.zero_le _⟩
theorem sl_ok {rows : Go.Vx.Rows} {h : Nat} {l : List Sl} {n : Nat} (hr : rows[h]? = some (.live 4 ((l.map slD).map (·.map .d)))) (hn : n = l.length) : snapOk rows (.osl 4 h n 0 n) ∧ snapV rows (.osl 4 h n 0 n) = stV l := by
  subst hn
  constructor
  · refine ⟨by omega, _, hr, by simp, fun e he v hv => ?_⟩
    obtain ⟨d, _, rfl⟩ := List.mem_map.1 he
    obtain ⟨y, _, rfl⟩ := List.mem_map.1 hv
    rfl
  · simp only [snapV, snapC, hr]
    rw [List.drop_zero, List.take_of_length_le (by simp), List.map_map]
    have : ∀ x ∈ l.map slD, ((fun e : List V => e.map toD) ∘ fun e : List D => e.map V.d) x = x := fun x _ => by
      simp only [Function.comp, List.map_map]
      exact List.map_id _
    rw [List.map_congr_left this]
    simp
theorem t10 : CallP Try.prog 10 [] (.d (.bool true)) := by
  refine go10 (wkAt 2 ac10) rfl ?_
  simp only [vx, vz, Nat.reduceAdd, Nat.reduceSub, Nat.reduceMul, Nat.reduceLeDiff, Nat.reduceLT, Nat.reduceEqDiff, Nat.reduceBEq, Int.reduceToNat, Int.reduceNeg, Int.reduceEq, Int.reduceNe, Int.reduceLE, Int.reduceLT, reduceCtorEq, ↓reduceIte, ac10, wkAt]
  refine call_p rfl (t26 [97]) ?_
  simp only [vx, vz, Nat.reduceAdd, Nat.reduceSub, Nat.reduceMul, Nat.reduceLeDiff, Nat.reduceLT, Nat.reduceEqDiff, Nat.reduceBEq, Int.reduceToNat, Int.reduceNeg, Int.reduceEq, Int.reduceNe, Int.reduceLE, Int.reduceLT, reduceCtorEq, ↓reduceIte]
  refine call_p rfl (t26 [98]) ?_
  simp only [vx, vz, Nat.reduceAdd, Nat.reduceSub, Nat.reduceMul, Nat.reduceLeDiff, Nat.reduceLT, Nat.reduceEqDiff, Nat.reduceBEq, Int.reduceToNat, Int.reduceNeg, Int.reduceEq, Int.reduceNe, Int.reduceLE, Int.reduceLT, reduceCtorEq, ↓reduceIte]
  refine call_p rfl (t26 [120]) ?_
  simp only [vx, vz, Nat.reduceAdd, Nat.reduceSub, Nat.reduceMul, Nat.reduceLeDiff, Nat.reduceLT, Nat.reduceEqDiff, Nat.reduceBEq, Int.reduceToNat, Int.reduceNeg, Int.reduceEq, Int.reduceNe, Int.reduceLE, Int.reduceLT, reduceCtorEq, ↓reduceIte]
  refine wk_in ⟨mkF 31 [(1, llV exL)], []⟩ (Weak.trans (B := ⟨mkF 31 [(1, .osl 1 2 2 0 2)], _⟩) (weak_any ?_) (weak_frz2 0 (by omega) trivial (kpL_set (i := 1) rfl ?_ rfl))) ?_
  · simp only [vx, vz, Nat.reduceAdd, Nat.reduceSub, Nat.reduceMul, Nat.reduceLeDiff, Nat.reduceLT, Nat.reduceEqDiff, Nat.reduceBEq, Int.reduceToNat, Int.reduceNeg, Int.reduceEq, Int.reduceNe, Int.reduceLE, Int.reduceLT, reduceCtorEq, ↓reduceIte]
    try trivial
  · refine sn_oslZ rfl rfl (by decide) ⟨rfl, ⟨?_, trivial⟩, rfl, ⟨?_, trivial⟩, trivial⟩
    · exact sn_all (es := [bz [97], bz [98]].map slD) rfl rfl szl
    · exact sn_all (es := [bz [120]].map slD) rfl rfl szl
  simp only [vx, vz, Nat.reduceAdd, Nat.reduceSub, Nat.reduceMul, Nat.reduceLeDiff, Nat.reduceLT, Nat.reduceEqDiff, Nat.reduceBEq, Int.reduceToNat, Int.reduceNeg, Int.reduceEq, Int.reduceNe, Int.reduceLE, Int.reduceLT, reduceCtorEq, ↓reduceIte]
  have h11 := t11 exL exok
  have h14 := t14 exL exok
  rw [show outT exL (longS exL) = [bz [97], bz [120], bz [98]] from rfl] at h11
  rw [show firS exL = [bz [97], bz [98], bz [120]] from rfl] at h14
  refine call_p rfl (h11) ?_
  simp only [vx, vz, Nat.reduceAdd, Nat.reduceSub, Nat.reduceMul, Nat.reduceLeDiff, Nat.reduceLT, Nat.reduceEqDiff, Nat.reduceBEq, Int.reduceToNat, Int.reduceNeg, Int.reduceEq, Int.reduceNe, Int.reduceLE, Int.reduceLT, reduceCtorEq, ↓reduceIte]
  refine call_p rfl (t26 [97]) ?_
  simp only [vx, vz, Nat.reduceAdd, Nat.reduceSub, Nat.reduceMul, Nat.reduceLeDiff, Nat.reduceLT, Nat.reduceEqDiff, Nat.reduceBEq, Int.reduceToNat, Int.reduceNeg, Int.reduceEq, Int.reduceNe, Int.reduceLE, Int.reduceLT, reduceCtorEq, ↓reduceIte]
  refine call_p rfl (t26 [120]) ?_
  simp only [vx, vz, Nat.reduceAdd, Nat.reduceSub, Nat.reduceMul, Nat.reduceLeDiff, Nat.reduceLT, Nat.reduceEqDiff, Nat.reduceBEq, Int.reduceToNat, Int.reduceNeg, Int.reduceEq, Int.reduceNe, Int.reduceLE, Int.reduceLT, reduceCtorEq, ↓reduceIte]
  refine call_p rfl (t26 [98]) ?_
  simp only [vx, vz, Nat.reduceAdd, Nat.reduceSub, Nat.reduceMul, Nat.reduceLeDiff, Nat.reduceLT, Nat.reduceEqDiff, Nat.reduceBEq, Int.reduceToNat, Int.reduceNeg, Int.reduceEq, Int.reduceNe, Int.reduceLE, Int.reduceLT, reduceCtorEq, ↓reduceIte]
  refine call_s (v := .d (.bool true)) ?_ rfl ?_ ?_
  · intro x hx
    simp only [List.nil_append, List.append_nil, List.mem_cons, List.not_mem_nil, or_false] at hx
    rcases hx with rfl | rfl
    · rfl
    · exact (sl_ok (l := [bz [97], bz [120], bz [98]]) rfl rfl).1
  · simp only [List.nil_append, List.append_nil, List.map_cons, List.map_nil, (sl_ok (l := [bz [97], bz [120], bz [98]]) (h := 0) (n := 3) (rows := [RowS.live 4 ([bz [97], bz [120], bz [98]].map (fun s => (slD s).map .d)), .un]) rfl rfl).2]
    exact t12 [bz [97], bz [120], bz [98]] (by decide) ok3
  simp only [vx, vz, Nat.reduceAdd, Nat.reduceSub, Nat.reduceMul, Nat.reduceLeDiff, Nat.reduceLT, Nat.reduceEqDiff, Nat.reduceBEq, Int.reduceToNat, Int.reduceNeg, Int.reduceEq, Int.reduceNe, Int.reduceLE, Int.reduceLT, reduceCtorEq, ↓reduceIte]
  refine call_p rfl (h14) ?_
  simp only [vx, vz, Nat.reduceAdd, Nat.reduceSub, Nat.reduceMul, Nat.reduceLeDiff, Nat.reduceLT, Nat.reduceEqDiff, Nat.reduceBEq, Int.reduceToNat, Int.reduceNeg, Int.reduceEq, Int.reduceNe, Int.reduceLE, Int.reduceLT, reduceCtorEq, ↓reduceIte]
  refine call_p rfl (t26 [97]) ?_
  simp only [vx, vz, Nat.reduceAdd, Nat.reduceSub, Nat.reduceMul, Nat.reduceLeDiff, Nat.reduceLT, Nat.reduceEqDiff, Nat.reduceBEq, Int.reduceToNat, Int.reduceNeg, Int.reduceEq, Int.reduceNe, Int.reduceLE, Int.reduceLT, reduceCtorEq, ↓reduceIte]
  refine call_p rfl (t26 [98]) ?_
  simp only [vx, vz, Nat.reduceAdd, Nat.reduceSub, Nat.reduceMul, Nat.reduceLeDiff, Nat.reduceLT, Nat.reduceEqDiff, Nat.reduceBEq, Int.reduceToNat, Int.reduceNeg, Int.reduceEq, Int.reduceNe, Int.reduceLE, Int.reduceLT, reduceCtorEq, ↓reduceIte]
  refine call_p rfl (t26 [120]) ?_
  simp only [vx, vz, Nat.reduceAdd, Nat.reduceSub, Nat.reduceMul, Nat.reduceLeDiff, Nat.reduceLT, Nat.reduceEqDiff, Nat.reduceBEq, Int.reduceToNat, Int.reduceNeg, Int.reduceEq, Int.reduceNe, Int.reduceLE, Int.reduceLT, reduceCtorEq, ↓reduceIte]
  refine call_s (v := .d (.bool true)) ?_ rfl ?_ ?_
  · intro x hx
    simp only [List.nil_append, List.append_nil, List.mem_cons, List.not_mem_nil, or_false] at hx
    rcases hx with rfl | rfl
    · rfl
    · exact (sl_ok (l := [bz [97], bz [98], bz [120]]) rfl rfl).1
  · exact t12 [bz [97], bz [98], bz [120]] (by decide) ok3
  simp only [vx, vz, Nat.reduceAdd, Nat.reduceSub, Nat.reduceMul, Nat.reduceLeDiff, Nat.reduceLT, Nat.reduceEqDiff, Nat.reduceBEq, Int.reduceToNat, Int.reduceNeg, Int.reduceEq, Int.reduceNe, Int.reduceLE, Int.reduceLT, reduceCtorEq, ↓reduceIte, exL, stD]
  refine call_p rfl (t17 [bz [97], bz [98]] (by decide)) ?_
  simp only [vx, vz, Nat.reduceAdd, Nat.reduceSub, Nat.reduceMul, Nat.reduceLeDiff, Nat.reduceLT, Nat.reduceEqDiff, Nat.reduceBEq, Int.reduceToNat, Int.reduceNeg, Int.reduceEq, Int.reduceNe, Int.reduceLE, Int.reduceLT, reduceCtorEq, ↓reduceIte]
  exact decide_eq_true rfl
def fewX (x : Sl) : Bool := decide (x.2.1.length ≤ 10) && decide (x.2.2.1.length ≤ 10)
def fewL (s : List Sl) : Bool := decide (s.length ≤ 20) && s.all fewX
def fewS (l : List (List Sl)) : Bool := decide (l.length ≤ 8) && l.all fewL
def okA (l : List (List Sl)) : Prop := l.length ≤ maxLen ∧ ∀ s ∈ l, s.length ≤ maxLen ∧ ∀ x ∈ s, x.2.1.length ≤ maxLen ∧ x.2.2.1.length ≤ maxLen
theorem few_ok {l : List (List Sl)} (h : fewS l = true) : okL l ∧ l.length ≤ 8 := by
  simp only [fewS, fewL, fewX, Bool.and_eq_true, decide_eq_true_eq, List.all_eq_true] at h
  exact ⟨⟨by omega, fun s hs => ⟨(h.2 s hs).1, fun x hx => (h.2 s hs).2 x hx⟩⟩, h.1⟩
theorem t9 (l : List (List Sl)) (ok : okA l) : CallP Try.prog 9 [llV l] (.d (.bool (fewS l))) := by
  have hm := hm
  have hl1 := ok.1
  refine go9 ac9 rfl ?_
  simp only [vx, vz, Nat.reduceAdd, Nat.reduceSub, Nat.reduceMul, Nat.reduceLeDiff, Nat.reduceLT, Nat.reduceEqDiff, Nat.reduceBEq, Int.reduceToNat, Int.reduceNeg, Int.reduceEq, Int.reduceNe, Int.reduceLE, Int.reduceLT, reduceCtorEq, ↓reduceIte, ac9]
  refine cond_split (fun hc => ?_) (fun hc => ?_)
  · simp only [decide_eq_true_eq] at hc
    have : fewS l = false := by rw [fewS, df (by omega)]; rfl
    simp only [vx, vz, Nat.reduceAdd, Nat.reduceSub, Nat.reduceMul, Nat.reduceLeDiff, Nat.reduceLT, Nat.reduceEqDiff, Nat.reduceBEq, Int.reduceToNat, Int.reduceNeg, Int.reduceEq, Int.reduceNe, Int.reduceLE, Int.reduceLT, reduceCtorEq, ↓reduceIte, this]
  · simp only [decide_eq_false_iff_not] at hc
    have hf : fewS l = l.all fewL := by rw [fewS, dt (by omega)]; rfl
    simp only [vx, vz, Nat.reduceAdd, Nat.reduceSub, Nat.reduceMul, Nat.reduceLeDiff, Nat.reduceLT, Nat.reduceEqDiff, Nat.reduceBEq, Int.reduceToNat, Int.reduceNeg, Int.reduceEq, Int.reduceNe, Int.reduceLE, Int.reduceLT, reduceCtorEq, ↓reduceIte]
    refine loop_st (fun i : Nat => ⟨mkF 53 [(0, llV l), (3, .d (.int .i64 i))], []⟩) (fun i => i ≤ l.length ∧ fewS l = (l.drop i).all fewL) (fun i => l.length - i) 0 (weak_any (by simp only [vx, vz, Nat.reduceAdd, Nat.reduceSub, Nat.reduceMul, Nat.reduceLeDiff, Nat.reduceLT, Nat.reduceEqDiff, Nat.reduceBEq, Int.reduceToNat, Int.reduceNeg, Int.reduceEq, Int.reduceNe, Int.reduceLE, Int.reduceLT, reduceCtorEq, ↓reduceIte]; try trivial)) ⟨by omega, by rw [List.drop_zero]; exact hf⟩ (fun i hi => ?_)
    obtain ⟨h1, h2⟩ := hi
    simp only [vx, vz, Nat.reduceAdd, Nat.reduceSub, Nat.reduceMul, Nat.reduceLeDiff, Nat.reduceLT, Nat.reduceEqDiff, Nat.reduceBEq, Int.reduceToNat, Int.reduceNeg, Int.reduceEq, Int.reduceNe, Int.reduceLE, Int.reduceLT, reduceCtorEq, ↓reduceIte]
    refine cond_split (fun hc2 => ?_) (fun hc2 => ?_)
    · simp only [decide_eq_true_eq] at hc2
      obtain ⟨s, hs⟩ := get_ex (l := l) (i := i) (by omega)
      have hsl := ok.2 s (List.mem_of_getElem? hs)
      have hsl1 := hsl.1
      rw [drop_at hs, List.all_cons] at h2
      simp only [vx, vz, Nat.reduceAdd, Nat.reduceSub, Nat.reduceMul, Nat.reduceLeDiff, Nat.reduceLT, Nat.reduceEqDiff, Nat.reduceBEq, Int.reduceToNat, Int.reduceNeg, Int.reduceEq, Int.reduceNe, Int.reduceLE, Int.reduceLT, reduceCtorEq, ↓reduceIte]
      refine ⟨by omega, by omega, getM_at hs ?_⟩
      simp only [vx, vz, Nat.reduceAdd, Nat.reduceSub, Nat.reduceMul, Nat.reduceLeDiff, Nat.reduceLT, Nat.reduceEqDiff, Nat.reduceBEq, Int.reduceToNat, Int.reduceNeg, Int.reduceEq, Int.reduceNe, Int.reduceLE, Int.reduceLT, reduceCtorEq, ↓reduceIte]
      simp only [vx, vz, Nat.reduceAdd, Nat.reduceSub, Nat.reduceMul, Nat.reduceLeDiff, Nat.reduceLT, Nat.reduceEqDiff, Nat.reduceBEq, Int.reduceToNat, Int.reduceNeg, Int.reduceEq, Int.reduceNe, Int.reduceLE, Int.reduceLT, reduceCtorEq, ↓reduceIte, stD]
      refine cond_split (fun hc3 => ?_) (fun hc3 => ?_)
      · simp only [decide_eq_true_eq] at hc3
        rw [fewL, df (by omega), Bool.false_and, Bool.false_and] at h2
        simp only [vx, vz, Nat.reduceAdd, Nat.reduceSub, Nat.reduceMul, Nat.reduceLeDiff, Nat.reduceLT, Nat.reduceEqDiff, Nat.reduceBEq, Int.reduceToNat, Int.reduceNeg, Int.reduceEq, Int.reduceNe, Int.reduceLE, Int.reduceLT, reduceCtorEq, ↓reduceIte, h2]
      · simp only [decide_eq_false_iff_not] at hc3
        have hfl : fewL s = s.all fewX := by rw [fewL, dt (by omega)]; rfl
        rw [hfl] at h2
        simp only [vx, vz, Nat.reduceAdd, Nat.reduceSub, Nat.reduceMul, Nat.reduceLeDiff, Nat.reduceLT, Nat.reduceEqDiff, Nat.reduceBEq, Int.reduceToNat, Int.reduceNeg, Int.reduceEq, Int.reduceNe, Int.reduceLE, Int.reduceLT, reduceCtorEq, ↓reduceIte]
        refine loop_st (fun k : Nat => ⟨mkF 53 [(0, llV l), (3, .d (.int .i64 i)), (4, .d (.int .i64 k))], []⟩) (fun k => k ≤ s.length ∧ fewS l = ((s.drop k).all fewX && (l.drop (i + 1)).all fewL)) (fun k => s.length - k) 0 (weak_any (by simp only [vx, vz, Nat.reduceAdd, Nat.reduceSub, Nat.reduceMul, Nat.reduceLeDiff, Nat.reduceLT, Nat.reduceEqDiff, Nat.reduceBEq, Int.reduceToNat, Int.reduceNeg, Int.reduceEq, Int.reduceNe, Int.reduceLE, Int.reduceLT, reduceCtorEq, ↓reduceIte]; try trivial)) ⟨by omega, by rw [List.drop_zero]; exact h2⟩ (fun k hk => ?_)
        obtain ⟨h3, h4⟩ := hk
        simp only [vx, vz, Nat.reduceAdd, Nat.reduceSub, Nat.reduceMul, Nat.reduceLeDiff, Nat.reduceLT, Nat.reduceEqDiff, Nat.reduceBEq, Int.reduceToNat, Int.reduceNeg, Int.reduceEq, Int.reduceNe, Int.reduceLE, Int.reduceLT, reduceCtorEq, ↓reduceIte]
        refine ⟨by omega, by omega, getM_at hs ?_⟩
        simp only [vx, vz, Nat.reduceAdd, Nat.reduceSub, Nat.reduceMul, Nat.reduceLeDiff, Nat.reduceLT, Nat.reduceEqDiff, Nat.reduceBEq, Int.reduceToNat, Int.reduceNeg, Int.reduceEq, Int.reduceNe, Int.reduceLE, Int.reduceLT, reduceCtorEq, ↓reduceIte]
        simp only [vx, vz, Nat.reduceAdd, Nat.reduceSub, Nat.reduceMul, Nat.reduceLeDiff, Nat.reduceLT, Nat.reduceEqDiff, Nat.reduceBEq, Int.reduceToNat, Int.reduceNeg, Int.reduceEq, Int.reduceNe, Int.reduceLE, Int.reduceLT, reduceCtorEq, ↓reduceIte, stD]
        refine cond_split (fun hc4 => ?_) (fun hc4 => ?_)
        · simp only [decide_eq_true_eq] at hc4
          obtain ⟨x, hx⟩ := get_ex (l := s) (i := k) (by omega)
          have hxl := hsl.2 x (List.mem_of_getElem? hx)
          rw [drop_at hx, List.all_cons, fewX] at h4
          simp only [vx, vz, Nat.reduceAdd, Nat.reduceSub, Nat.reduceMul, Nat.reduceLeDiff, Nat.reduceLT, Nat.reduceEqDiff, Nat.reduceBEq, Int.reduceToNat, Int.reduceNeg, Int.reduceEq, Int.reduceNe, Int.reduceLE, Int.reduceLT, reduceCtorEq, ↓reduceIte]
          refine ⟨by omega, by omega, getM_at hs ?_⟩
          simp only [vx, vz, Nat.reduceAdd, Nat.reduceSub, Nat.reduceMul, Nat.reduceLeDiff, Nat.reduceLT, Nat.reduceEqDiff, Nat.reduceBEq, Int.reduceToNat, Int.reduceNeg, Int.reduceEq, Int.reduceNe, Int.reduceLE, Int.reduceLT, reduceCtorEq, ↓reduceIte]
          simp only [vx, vz, Nat.reduceAdd, Nat.reduceSub, Nat.reduceMul, Nat.reduceLeDiff, Nat.reduceLT, Nat.reduceEqDiff, Nat.reduceBEq, Int.reduceToNat, Int.reduceNeg, Int.reduceEq, Int.reduceNe, Int.reduceLE, Int.reduceLT, reduceCtorEq, ↓reduceIte, stD]
          refine ⟨by omega, by omega, getM_at hx ?_⟩
          simp only [vx, vz, Nat.reduceAdd, Nat.reduceSub, Nat.reduceMul, Nat.reduceLeDiff, Nat.reduceLT, Nat.reduceEqDiff, Nat.reduceBEq, Int.reduceToNat, Int.reduceNeg, Int.reduceEq, Int.reduceNe, Int.reduceLE, Int.reduceLT, reduceCtorEq, ↓reduceIte]
          simp only [vx, vz, Nat.reduceAdd, Nat.reduceSub, Nat.reduceMul, Nat.reduceLeDiff, Nat.reduceLT, Nat.reduceEqDiff, Nat.reduceBEq, Int.reduceToNat, Int.reduceNeg, Int.reduceEq, Int.reduceNe, Int.reduceLE, Int.reduceLT, reduceCtorEq, ↓reduceIte, slD]
          by_cases hq : 10 < (x.2.1.length : Int)
          · rw [df (show ¬ x.2.1.length ≤ 10 by omega), Bool.false_and, Bool.false_and, Bool.false_and] at h4
            simp only [vx, vz, Nat.reduceAdd, Nat.reduceSub, Nat.reduceMul, Nat.reduceLeDiff, Nat.reduceLT, Nat.reduceEqDiff, Nat.reduceBEq, Int.reduceToNat, Int.reduceNeg, Int.reduceEq, Int.reduceNe, Int.reduceLE, Int.reduceLT, reduceCtorEq, ↓reduceIte, dt hq, h4]
          · rw [dt (show x.2.1.length ≤ 10 by omega), Bool.true_and] at h4
            simp only [vx, vz, Nat.reduceAdd, Nat.reduceSub, Nat.reduceMul, Nat.reduceLeDiff, Nat.reduceLT, Nat.reduceEqDiff, Nat.reduceBEq, Int.reduceToNat, Int.reduceNeg, Int.reduceEq, Int.reduceNe, Int.reduceLE, Int.reduceLT, reduceCtorEq, ↓reduceIte, df hq]
            refine ⟨by omega, by omega, getM_at hs ?_⟩
            simp only [vx, vz, Nat.reduceAdd, Nat.reduceSub, Nat.reduceMul, Nat.reduceLeDiff, Nat.reduceLT, Nat.reduceEqDiff, Nat.reduceBEq, Int.reduceToNat, Int.reduceNeg, Int.reduceEq, Int.reduceNe, Int.reduceLE, Int.reduceLT, reduceCtorEq, ↓reduceIte]
            simp only [vx, vz, Nat.reduceAdd, Nat.reduceSub, Nat.reduceMul, Nat.reduceLeDiff, Nat.reduceLT, Nat.reduceEqDiff, Nat.reduceBEq, Int.reduceToNat, Int.reduceNeg, Int.reduceEq, Int.reduceNe, Int.reduceLE, Int.reduceLT, reduceCtorEq, ↓reduceIte, stD]
            refine ⟨by omega, by omega, getM_at hx ?_⟩
            simp only [vx, vz, Nat.reduceAdd, Nat.reduceSub, Nat.reduceMul, Nat.reduceLeDiff, Nat.reduceLT, Nat.reduceEqDiff, Nat.reduceBEq, Int.reduceToNat, Int.reduceNeg, Int.reduceEq, Int.reduceNe, Int.reduceLE, Int.reduceLT, reduceCtorEq, ↓reduceIte]
            simp only [vx, vz, Nat.reduceAdd, Nat.reduceSub, Nat.reduceMul, Nat.reduceLeDiff, Nat.reduceLT, Nat.reduceEqDiff, Nat.reduceBEq, Int.reduceToNat, Int.reduceNeg, Int.reduceEq, Int.reduceNe, Int.reduceLE, Int.reduceLT, reduceCtorEq, ↓reduceIte, slD]
            refine cond_split (fun hc5 => ?_) (fun hc5 => ?_)
            · simp only [decide_eq_true_eq] at hc5
              rw [df (show ¬ x.2.2.1.length ≤ 10 by omega), Bool.false_and, Bool.false_and] at h4
              simp only [vx, vz, Nat.reduceAdd, Nat.reduceSub, Nat.reduceMul, Nat.reduceLeDiff, Nat.reduceLT, Nat.reduceEqDiff, Nat.reduceBEq, Int.reduceToNat, Int.reduceNeg, Int.reduceEq, Int.reduceNe, Int.reduceLE, Int.reduceLT, reduceCtorEq, ↓reduceIte, h4]
            · simp only [decide_eq_false_iff_not] at hc5
              rw [dt (show x.2.2.1.length ≤ 10 by omega), Bool.true_and] at h4
              simp only [vx, vz, Nat.reduceAdd, Nat.reduceSub, Nat.reduceMul, Nat.reduceLeDiff, Nat.reduceLT, Nat.reduceEqDiff, Nat.reduceBEq, Int.reduceToNat, Int.reduceNeg, Int.reduceEq, Int.reduceNe, Int.reduceLE, Int.reduceLT, reduceCtorEq, ↓reduceIte]
              refine ls_n (k + 1) (by omega) (weak_any ?_) ⟨by omega, h4⟩
              simp only [vx, vz, Nat.reduceAdd, Nat.reduceSub, Nat.reduceMul, Nat.reduceLeDiff, Nat.reduceLT, Nat.reduceEqDiff, Nat.reduceBEq, Int.reduceToNat, Int.reduceNeg, Int.reduceEq, Int.reduceNe, Int.reduceLE, Int.reduceLT, reduceCtorEq, ↓reduceIte]
              rw [wr_i64 (by omega) (by omega)]
              try trivial
        · simp only [decide_eq_false_iff_not] at hc4
          rw [drop_end (l := s) (by omega), List.all_nil, Bool.true_and] at h4
          simp only [vx, vz, Nat.reduceAdd, Nat.reduceSub, Nat.reduceMul, Nat.reduceLeDiff, Nat.reduceLT, Nat.reduceEqDiff, Nat.reduceBEq, Int.reduceToNat, Int.reduceNeg, Int.reduceEq, Int.reduceNe, Int.reduceLE, Int.reduceLT, reduceCtorEq, ↓reduceIte]
          refine ls_n (i + 1) (by omega) (weak_any ?_) ⟨by omega, h4⟩
          simp only [vx, vz, Nat.reduceAdd, Nat.reduceSub, Nat.reduceMul, Nat.reduceLeDiff, Nat.reduceLT, Nat.reduceEqDiff, Nat.reduceBEq, Int.reduceToNat, Int.reduceNeg, Int.reduceEq, Int.reduceNe, Int.reduceLE, Int.reduceLT, reduceCtorEq, ↓reduceIte]
          rw [wr_i64 (by omega) (by omega)]
          try trivial
    · simp only [decide_eq_false_iff_not] at hc2
      rw [drop_end (by omega), List.all_nil] at h2
      simp only [vx, vz, Nat.reduceAdd, Nat.reduceSub, Nat.reduceMul, Nat.reduceLeDiff, Nat.reduceLT, Nat.reduceEqDiff, Nat.reduceBEq, Int.reduceToNat, Int.reduceNeg, Int.reduceEq, Int.reduceNe, Int.reduceLE, Int.reduceLT, reduceCtorEq, ↓reduceIte, h2]
end Go.Proofs.Ar
