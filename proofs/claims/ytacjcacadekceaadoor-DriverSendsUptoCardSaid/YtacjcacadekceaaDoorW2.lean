import Derived.Test.YtacjcacadekceaaDoorW1
import Derived.Test.YtacjcacadekceaaDoorVxArg4
set_option linter.unusedSimpArgs false
set_option linter.unusedVariables false
namespace Go.Proofs.Dr
open Go.Vx
theorem rch : (reachBytes : Int) = 140737488351232 := rfl
theorem rchN : reachBytes = 140737488351232 := rfl
theorem mxB : maxBytes = 140737488355328 := rfl
theorem mxL : maxLen = 9223372036854775807 := rfl
/-- a slot -/
structure Slo where
  idl : Bool
  tx : Tx
  pa : B
def Slo.d (s : Slo) : List D := [.bool s.idl, .sl 1 (strs s.tx.1), .sl 1 (ints s.tx.2), .str s.pa]
abbrev slV (s : Slo) : V := .agg [.d (.bool s.idl), .d (.sl 1 (strs s.tx.1)), .d (.sl 1 (ints s.tx.2)), .d (.str s.pa)]
def okT (t : Tx) : Prop := t.1.length * 16 ≤ reachBytes ∧ t.2.length * 8 ≤ reachBytes ∧ ∀ s ∈ t.1, s.length ≤ reachBytes
theorem okT_X {t : Tx} (h : okT t) : okX t := by
  obtain ⟨h1, h2, h3⟩ := h
  have := rchN; have := mxL
  exact ⟨by omega, by omega, fun s hs => by have := h3 s hs; omega⟩
theorem t48 (l : List B) (hl : l.length * 16 ≤ reachBytes) : CallP Tryd.prog 48 [.d (.sl 1 (l.map sD))] (.d (.sl 1 (l.map sD))) := by
  have := rchN; have := mxB
  refine go48 ac48 rfl ?_
  cases l with
  | nil =>
    simp only [vx, vz, Nat.reduceAdd, Nat.reduceSub, Nat.reduceMul, Nat.reduceLeDiff, Nat.reduceLT, Nat.reduceEqDiff, Nat.reduceBEq, Int.reduceToNat, Int.reduceNeg, Int.reduceEq, Int.reduceNe, Int.reduceLE, Int.reduceLT, reduceCtorEq, ↓reduceIte, ac48]
    exact ⟨by omega, sn_all (es := []) rfl rfl (by simp)⟩
  | cons x l =>
    simp only [vx, vz, Nat.reduceAdd, Nat.reduceSub, Nat.reduceMul, Nat.reduceLeDiff, Nat.reduceLT, Nat.reduceEqDiff, Nat.reduceBEq, Int.reduceToNat, Int.reduceNeg, Int.reduceEq, Int.reduceNe, Int.reduceLE, Int.reduceLT, reduceCtorEq, ↓reduceIte, ac48]
    simp only [List.length_cons] at hl
    exact ⟨by omega, sn_all (es := (x :: l).map sD) rfl (by simp) szs⟩
theorem t49 (l : List Int) (hl : l.length * 8 ≤ reachBytes) : CallP Tryd.prog 49 [.d (.sl 1 (l.map iD))] (.d (.sl 1 (l.map iD))) := by
  have := rchN; have := mxB
  refine go49 ac49 rfl ?_
  cases l with
  | nil =>
    simp only [vx, vz, Nat.reduceAdd, Nat.reduceSub, Nat.reduceMul, Nat.reduceLeDiff, Nat.reduceLT, Nat.reduceEqDiff, Nat.reduceBEq, Int.reduceToNat, Int.reduceNeg, Int.reduceEq, Int.reduceNe, Int.reduceLE, Int.reduceLT, reduceCtorEq, ↓reduceIte, ac49]
    exact ⟨by omega, sn_all (es := []) rfl rfl (by simp)⟩
  | cons x l =>
    simp only [vx, vz, Nat.reduceAdd, Nat.reduceSub, Nat.reduceMul, Nat.reduceLeDiff, Nat.reduceLT, Nat.reduceEqDiff, Nat.reduceBEq, Int.reduceToNat, Int.reduceNeg, Int.reduceEq, Int.reduceNe, Int.reduceLE, Int.reduceLT, reduceCtorEq, ↓reduceIte, ac49]
    simp only [List.length_cons] at hl
    exact ⟨by omega, sn_all (es := (x :: l).map iD) rfl (by simp) szi⟩
theorem t32 (t : Tx) (ok : okT t) : CallP Tryd.prog 32 [txV t] (txV t) := by
  refine go32 ac32 rfl ?_
  simp only [vx, vz, Nat.reduceAdd, Nat.reduceSub, Nat.reduceMul, Nat.reduceLeDiff, Nat.reduceLT, Nat.reduceEqDiff, Nat.reduceBEq, Int.reduceToNat, Int.reduceNeg, Int.reduceEq, Int.reduceNe, Int.reduceLE, Int.reduceLT, reduceCtorEq, ↓reduceIte, ac32]
  refine c_draw ?_
  simp only [vx, vz, Nat.reduceAdd, Nat.reduceSub, Nat.reduceMul, Nat.reduceLeDiff, Nat.reduceLT, Nat.reduceEqDiff, Nat.reduceBEq, Int.reduceToNat, Int.reduceNeg, Int.reduceEq, Int.reduceNe, Int.reduceLE, Int.reduceLT, reduceCtorEq, ↓reduceIte]
  repeat (refine d_k rfl rfl ?_; simp only [vx, vz, Nat.reduceAdd, Nat.reduceSub, Nat.reduceMul, Nat.reduceLeDiff, Nat.reduceLT, Nat.reduceEqDiff, Nat.reduceBEq, Int.reduceToNat, Int.reduceNeg, Int.reduceEq, Int.reduceNe, Int.reduceLE, Int.reduceLT, reduceCtorEq, ↓reduceIte])
  refine call_p rfl (t48 t.1 ok.1) ?_
  repeat (refine d_k rfl rfl ?_; simp only [vx, vz, Nat.reduceAdd, Nat.reduceSub, Nat.reduceMul, Nat.reduceLeDiff, Nat.reduceLT, Nat.reduceEqDiff, Nat.reduceBEq, Int.reduceToNat, Int.reduceNeg, Int.reduceEq, Int.reduceNe, Int.reduceLE, Int.reduceLT, reduceCtorEq, ↓reduceIte])
  refine call_p rfl (t49 t.2 ok.2.1) ?_
  repeat (refine d_k rfl rfl ?_; simp only [vx, vz, Nat.reduceAdd, Nat.reduceSub, Nat.reduceMul, Nat.reduceLeDiff, Nat.reduceLT, Nat.reduceEqDiff, Nat.reduceBEq, Int.reduceToNat, Int.reduceNeg, Int.reduceEq, Int.reduceNe, Int.reduceLE, Int.reduceLT, reduceCtorEq, ↓reduceIte])
  exact ⟨.d _, .d _⟩
abbrev slL (l : List Slo) : V := .d (.sl 4 (l.map Slo.d))
theorem szl {l : List Slo} : ∀ e ∈ l.map Slo.d, e.length = 4 := fun e he => by obtain ⟨t, _, rfl⟩ := List.mem_map.1 he; rfl
theorem rowK_sl {m : Nat} {rows : Go.Vx.Rows} {l : List Slo} {x : Slo} : RowK m rows (.live 4 ((l.map Slo.d).map (·.map .d) ++ [[.d (.bool x.idl), .d (.sl 1 (strs x.tx.1)), .d (.sl 1 (ints x.tx.2)), .d (.str x.pa)]])) (.live 4 (((l ++ [x]).map Slo.d).map (·.map .d))) := by
  rw [show (l ++ [x]).map Slo.d = l.map Slo.d ++ [x.d] by rw [List.map_append]; rfl]
  exact rowK_snoc (x := x.d) ⟨.same _ rfl, .same _ rfl, .same _ rfl, .same _ rfl, trivial⟩
theorem t25 (l : List Slo) (hl : l.length * 72 ≤ reachBytes) (ok : ∀ s ∈ l, okT s.tx) : CallP Tryd.prog 25 [slL l] (slL l) := by
  have := rchN; have := mxB
  refine go25 ac25 rfl ?_
  simp only [vx, vz, Nat.reduceAdd, Nat.reduceSub, Nat.reduceMul, Nat.reduceLeDiff, Nat.reduceLT, Nat.reduceEqDiff, Nat.reduceBEq, Int.reduceToNat, Int.reduceNeg, Int.reduceEq, Int.reduceNe, Int.reduceLE, Int.reduceLT, reduceCtorEq, ↓reduceIte, ac25]
  refine loop_st (fun i : Nat => ⟨mkF 22 [(3, .osl 4 0 i 0 i), (6, slL l), (7, .d (.int .i64 l.length)), (8, .d (.int .i64 i))], [.live 4 (((l.take i).map Slo.d).map (·.map .d))]⟩) (fun i => i ≤ l.length) (fun i => l.length - i) 0 (Weak.trans (weak_nils 3 4 rfl) (weak_any (by simp only [vx, vz, Nat.reduceAdd, Nat.reduceSub, Nat.reduceMul, Nat.reduceLeDiff, Nat.reduceLT, Nat.reduceEqDiff, Nat.reduceBEq, Int.reduceToNat, Int.reduceNeg, Int.reduceEq, Int.reduceNe, Int.reduceLE, Int.reduceLT, reduceCtorEq, ↓reduceIte]; try trivial))) (by omega) (fun i hi => ?_)
  simp only [vx, vz, Nat.reduceAdd, Nat.reduceSub, Nat.reduceMul, Nat.reduceLeDiff, Nat.reduceLT, Nat.reduceEqDiff, Nat.reduceBEq, Int.reduceToNat, Int.reduceNeg, Int.reduceEq, Int.reduceNe, Int.reduceLE, Int.reduceLT, reduceCtorEq, ↓reduceIte]
  refine cond_split (fun hc => ?_) (fun hc => ?_)
  · simp only [decide_eq_true_eq] at hc
    obtain ⟨x, hx⟩ := get_ex (l := l) (i := i) (by omega)
    have htx : (l.take i).length = i := by rw [List.length_take]; omega
    simp only [vx, vz, Nat.reduceAdd, Nat.reduceSub, Nat.reduceMul, Nat.reduceLeDiff, Nat.reduceLT, Nat.reduceEqDiff, Nat.reduceBEq, Int.reduceToNat, Int.reduceNeg, Int.reduceEq, Int.reduceNe, Int.reduceLE, Int.reduceLT, reduceCtorEq, ↓reduceIte]
    refine ⟨by omega, by omega, getM_at hx ?_⟩
    simp only [vx, vz, Nat.reduceAdd, Nat.reduceSub, Nat.reduceMul, Nat.reduceLeDiff, Nat.reduceLT, Nat.reduceEqDiff, Nat.reduceBEq, Int.reduceToNat, Int.reduceNeg, Int.reduceEq, Int.reduceNe, Int.reduceLE, Int.reduceLT, reduceCtorEq, ↓reduceIte]
    simp only [vx, vz, Nat.reduceAdd, Nat.reduceSub, Nat.reduceMul, Nat.reduceLeDiff, Nat.reduceLT, Nat.reduceEqDiff, Nat.reduceBEq, Int.reduceToNat, Int.reduceNeg, Int.reduceEq, Int.reduceNe, Int.reduceLE, Int.reduceLT, reduceCtorEq, ↓reduceIte, Slo.d]
    refine call_p rfl (t32 x.tx (ok x (List.mem_of_getElem? hx))) ?_
    simp only [vx, vz, Nat.reduceAdd, Nat.reduceSub, Nat.reduceMul, Nat.reduceLeDiff, Nat.reduceLT, Nat.reduceEqDiff, Nat.reduceBEq, Int.reduceToNat, Int.reduceNeg, Int.reduceEq, Int.reduceNe, Int.reduceLE, Int.reduceLT, reduceCtorEq, ↓reduceIte]
    simp only [vx, vz, Nat.reduceAdd, Nat.reduceSub, Nat.reduceMul, Nat.reduceLeDiff, Nat.reduceLT, Nat.reduceEqDiff, Nat.reduceBEq, Int.reduceToNat, Int.reduceNeg, Int.reduceEq, Int.reduceNe, Int.reduceLE, Int.reduceLT, reduceCtorEq, ↓reduceIte, htx]
    refine ⟨by omega, ?_⟩
    refine ls_n (i + 1) (by omega) (Weak.trans (weak_any ?_) (weak_frz2 1 (by omega) ⟨?_, trivial⟩ (kpL_refl ?_))) (by omega)
    · simp only [vx, vz, Nat.reduceAdd, Nat.reduceSub, Nat.reduceMul, Nat.reduceLeDiff, Nat.reduceLT, Nat.reduceEqDiff, Nat.reduceBEq, Int.reduceToNat, Int.reduceNeg, Int.reduceEq, Int.reduceNe, Int.reduceLE, Int.reduceLT, reduceCtorEq, ↓reduceIte]
      rw [wr_i64 (by omega) (by omega)]
      try trivial
    · show RowK _ _ _ (.live 4 (((l.take (i + 1)).map Slo.d).map (·.map .d)))
      rw [take_at hx]
      exact rowK_sl
    · rfl
  · simp only [decide_eq_false_iff_not] at hc
    have hi2 : i = l.length := by omega
    subst hi2
    rw [take_end (Nat.le_refl _)]
    simp only [vx, vz, Nat.reduceAdd, Nat.reduceSub, Nat.reduceMul, Nat.reduceLeDiff, Nat.reduceLT, Nat.reduceEqDiff, Nat.reduceBEq, Int.reduceToNat, Int.reduceNeg, Int.reduceEq, Int.reduceNe, Int.reduceLE, Int.reduceLT, reduceCtorEq, ↓reduceIte]
    exact sn_all (es := l.map Slo.d) rfl (by simp) szl
/-- a driver -/
structure Dv where
  sl : List Slo
  at_ : Int
  wt : Int
def Dv.d (d : Dv) : List D := [.sl 4 (d.sl.map Slo.d), .int .i64 d.at_, .int .i64 d.wt]
abbrev dvV (d : Dv) : V := .agg [slL d.sl, .d (.int .i64 d.at_), .d (.int .i64 d.wt)]
def okLs (l : List Slo) : Prop := l.length * 72 ≤ reachBytes ∧ ∀ s ∈ l, okT s.tx
theorem okLs_len {l : List Slo} (h : okLs l) : (l.length : Int) ≤ 2000000000000 := by
  have := h.1; have := rchN; omega
theorem t8 (l : List Slo) (ok : okLs l) : CallP Tryd.prog 8 [slL l] (dvV ⟨l, 0, 0⟩) := by
  refine go8 ac8 rfl ?_
  simp only [vx, vz, Nat.reduceAdd, Nat.reduceSub, Nat.reduceMul, Nat.reduceLeDiff, Nat.reduceLT, Nat.reduceEqDiff, Nat.reduceBEq, Int.reduceToNat, Int.reduceNeg, Int.reduceEq, Int.reduceNe, Int.reduceLE, Int.reduceLT, reduceCtorEq, ↓reduceIte, ac8]
  refine call_p rfl (t25 l ok.1 ok.2) ?_
  simp only [vx, vz, Nat.reduceAdd, Nat.reduceSub, Nat.reduceMul, Nat.reduceLeDiff, Nat.reduceLT, Nat.reduceEqDiff, Nat.reduceBEq, Int.reduceToNat, Int.reduceNeg, Int.reduceEq, Int.reduceNe, Int.reduceLE, Int.reduceLT, reduceCtorEq, ↓reduceIte]
  exact .d _
theorem t10 (l : List Slo) (ok : okLs l) : CallP Tryd.prog 10 [slL l] (dvV ⟨l, 0, 0⟩) := by
  have := rchN; have := mxB; have := ok.1
  refine go10 ac10 rfl ?_
  simp only [vx, vz, Nat.reduceAdd, Nat.reduceSub, Nat.reduceMul, Nat.reduceLeDiff, Nat.reduceLT, Nat.reduceEqDiff, Nat.reduceBEq, Int.reduceToNat, Int.reduceNeg, Int.reduceEq, Int.reduceNe, Int.reduceLE, Int.reduceLT, reduceCtorEq, ↓reduceIte, ac10]
  refine ⟨by omega, ?_⟩
  exact sn_all (es := l.map Slo.d) rfl (by simp) szl
def zSl : Slo := ⟨false, ([], []), []⟩
/-- the present slot -/
def nowS (d : Dv) : Option Slo := if 0 ≤ d.at_ then d.sl[d.at_.toNat]? else none
def busS (d : Dv) : Bool := match nowS d with
  | some s => !s.idl
  | none => false
theorem now_no {d : Dv} (h : d.at_ < 0 ∨ (d.sl.length : Int) ≤ d.at_) : nowS d = none := by
  unfold nowS
  split
  · exact List.getElem?_eq_none (by omega)
  · rfl
theorem now_at {d : Dv} {i : Nat} {s : Slo} (h : d.at_ = i) (hs : d.sl[i]? = some s) : nowS d = some s := by
  rw [nowS, if_pos (by omega), h]; simpa using hs
theorem t39 (d : Dv) : CallP Tryd.prog 39 [dvV d] (.tup [slV ((nowS d).getD zSl), .d (.bool (nowS d).isSome)]) := by
  refine go39 ac39 rfl ?_
  by_cases h1 : d.at_ < 0
  · rw [now_no (.inl h1)]
    simp only [vx, vz, Nat.reduceAdd, Nat.reduceSub, Nat.reduceMul, Nat.reduceLeDiff, Nat.reduceLT, Nat.reduceEqDiff, Nat.reduceBEq, Int.reduceToNat, Int.reduceNeg, Int.reduceEq, Int.reduceNe, Int.reduceLE, Int.reduceLT, reduceCtorEq, ↓reduceIte, ac39, dt h1, Option.getD_none, Option.isSome_none]
    exact ⟨rfl, .nils 1, .nils 1, rfl⟩
  · by_cases h2 : (d.sl.length : Int) ≤ d.at_
    · rw [now_no (.inr h2)]
      simp only [vx, vz, Nat.reduceAdd, Nat.reduceSub, Nat.reduceMul, Nat.reduceLeDiff, Nat.reduceLT, Nat.reduceEqDiff, Nat.reduceBEq, Int.reduceToNat, Int.reduceNeg, Int.reduceEq, Int.reduceNe, Int.reduceLE, Int.reduceLT, reduceCtorEq, ↓reduceIte, ac39, df h1, dt h2, Option.getD_none, Option.isSome_none]
      exact ⟨rfl, .nils 1, .nils 1, rfl⟩
    · obtain ⟨i, hi⟩ : ∃ i : Nat, d.at_ = i := ⟨d.at_.toNat, by omega⟩
      obtain ⟨s, hs⟩ := get_ex (l := d.sl) (i := i) (by omega)
      rw [now_at hi hs]
      simp only [vx, vz, Nat.reduceAdd, Nat.reduceSub, Nat.reduceMul, Nat.reduceLeDiff, Nat.reduceLT, Nat.reduceEqDiff, Nat.reduceBEq, Int.reduceToNat, Int.reduceNeg, Int.reduceEq, Int.reduceNe, Int.reduceLE, Int.reduceLT, reduceCtorEq, ↓reduceIte, ac39, hi, df (show ¬ (i : Int) < 0 by omega), df (show ¬ (d.sl.length : Int) ≤ (i : Int) by omega), Option.getD_some, Option.isSome_some]
      refine ⟨by omega, by omega, getM_at hs ?_⟩
      simp only [vx, vz, Nat.reduceAdd, Nat.reduceSub, Nat.reduceMul, Nat.reduceLeDiff, Nat.reduceLT, Nat.reduceEqDiff, Nat.reduceBEq, Int.reduceToNat, Int.reduceNeg, Int.reduceEq, Int.reduceNe, Int.reduceLE, Int.reduceLT, reduceCtorEq, ↓reduceIte]
      simp only [vx, vz, Nat.reduceAdd, Nat.reduceSub, Nat.reduceMul, Nat.reduceLeDiff, Nat.reduceLT, Nat.reduceEqDiff, Nat.reduceBEq, Int.reduceToNat, Int.reduceNeg, Int.reduceEq, Int.reduceNe, Int.reduceLE, Int.reduceLT, reduceCtorEq, ↓reduceIte, Slo.d]
      first | trivial | exact ⟨.d _, .d _⟩
theorem t27 (d : Dv) : CallP Tryd.prog 27 [dvV d] (.d (.bool (busS d))) := by
  refine go27 ac27 rfl ?_
  simp only [vx, vz, Nat.reduceAdd, Nat.reduceSub, Nat.reduceMul, Nat.reduceLeDiff, Nat.reduceLT, Nat.reduceEqDiff, Nat.reduceBEq, Int.reduceToNat, Int.reduceNeg, Int.reduceEq, Int.reduceNe, Int.reduceLE, Int.reduceLT, reduceCtorEq, ↓reduceIte, ac27]
  refine call_p rfl (t39 d) ?_
  simp only [vx, vz, Nat.reduceAdd, Nat.reduceSub, Nat.reduceMul, Nat.reduceLeDiff, Nat.reduceLT, Nat.reduceEqDiff, Nat.reduceBEq, Int.reduceToNat, Int.reduceNeg, Int.reduceEq, Int.reduceNe, Int.reduceLE, Int.reduceLT, reduceCtorEq, ↓reduceIte]
  unfold busS
  cases nowS d with
  | none => simp only [vx, vz, Nat.reduceAdd, Nat.reduceSub, Nat.reduceMul, Nat.reduceLeDiff, Nat.reduceLT, Nat.reduceEqDiff, Nat.reduceBEq, Int.reduceToNat, Int.reduceNeg, Int.reduceEq, Int.reduceNe, Int.reduceLE, Int.reduceLT, reduceCtorEq, ↓reduceIte, Option.getD_none, Option.isSome_none]
  | some s => simp only [vx, vz, Nat.reduceAdd, Nat.reduceSub, Nat.reduceMul, Nat.reduceLeDiff, Nat.reduceLT, Nat.reduceEqDiff, Nat.reduceBEq, Int.reduceToNat, Int.reduceNeg, Int.reduceEq, Int.reduceNe, Int.reduceLE, Int.reduceLT, reduceCtorEq, ↓reduceIte, Option.getD_some, Option.isSome_some]
theorem t31 (d : Dv) : CallP Tryd.prog 31 [dvV d] (.d (.bool (busS d))) := by
  refine go31 ac31 rfl ?_
  unfold busS
  by_cases h1 : 0 ≤ d.at_
  · by_cases h2 : d.at_ < (d.sl.length : Int)
    · obtain ⟨i, hi⟩ : ∃ i : Nat, d.at_ = i := ⟨d.at_.toNat, by omega⟩
      obtain ⟨s, hs⟩ := get_ex (l := d.sl) (i := i) (by omega)
      rw [now_at hi hs]
      simp only [vx, vz, Nat.reduceAdd, Nat.reduceSub, Nat.reduceMul, Nat.reduceLeDiff, Nat.reduceLT, Nat.reduceEqDiff, Nat.reduceBEq, Int.reduceToNat, Int.reduceNeg, Int.reduceEq, Int.reduceNe, Int.reduceLE, Int.reduceLT, reduceCtorEq, ↓reduceIte, ac31, hi, dt (show 0 ≤ (i : Int) by omega), dt (show (i : Int) < (d.sl.length : Int) by omega)]
      refine ⟨by omega, by omega, getM_at hs ?_⟩
      simp only [vx, vz, Nat.reduceAdd, Nat.reduceSub, Nat.reduceMul, Nat.reduceLeDiff, Nat.reduceLT, Nat.reduceEqDiff, Nat.reduceBEq, Int.reduceToNat, Int.reduceNeg, Int.reduceEq, Int.reduceNe, Int.reduceLE, Int.reduceLT, reduceCtorEq, ↓reduceIte]
      simp only [vx, vz, Nat.reduceAdd, Nat.reduceSub, Nat.reduceMul, Nat.reduceLeDiff, Nat.reduceLT, Nat.reduceEqDiff, Nat.reduceBEq, Int.reduceToNat, Int.reduceNeg, Int.reduceEq, Int.reduceNe, Int.reduceLE, Int.reduceLT, reduceCtorEq, ↓reduceIte, Slo.d]
    · rw [now_no (.inr (by omega))]
      simp only [vx, vz, Nat.reduceAdd, Nat.reduceSub, Nat.reduceMul, Nat.reduceLeDiff, Nat.reduceLT, Nat.reduceEqDiff, Nat.reduceBEq, Int.reduceToNat, Int.reduceNeg, Int.reduceEq, Int.reduceNe, Int.reduceLE, Int.reduceLT, reduceCtorEq, ↓reduceIte, ac31, dt h1, df h2]
  · rw [now_no (.inl (by omega))]
    simp only [vx, vz, Nat.reduceAdd, Nat.reduceSub, Nat.reduceMul, Nat.reduceLeDiff, Nat.reduceLT, Nat.reduceEqDiff, Nat.reduceBEq, Int.reduceToNat, Int.reduceNeg, Int.reduceEq, Int.reduceNe, Int.reduceLE, Int.reduceLT, reduceCtorEq, ↓reduceIte, ac31, df h1]
def donS (d : Dv) : Bool := decide ((d.sl.length : Int) ≤ d.at_) || decide (d.at_ < 0)
theorem t13 (d : Dv) : CallP Tryd.prog 13 [dvV d] (.d (.bool (donS d))) := by
  refine go13 ac13 rfl ?_
  unfold donS
  by_cases h : (d.sl.length : Int) ≤ d.at_
  · simp only [vx, vz, Nat.reduceAdd, Nat.reduceSub, Nat.reduceMul, Nat.reduceLeDiff, Nat.reduceLT, Nat.reduceEqDiff, Nat.reduceBEq, Int.reduceToNat, Int.reduceNeg, Int.reduceEq, Int.reduceNe, Int.reduceLE, Int.reduceLT, reduceCtorEq, ↓reduceIte, ac13, dt h, Bool.true_or]
  · simp only [vx, vz, Nat.reduceAdd, Nat.reduceSub, Nat.reduceMul, Nat.reduceLeDiff, Nat.reduceLT, Nat.reduceEqDiff, Nat.reduceBEq, Int.reduceToNat, Int.reduceNeg, Int.reduceEq, Int.reduceNe, Int.reduceLE, Int.reduceLT, reduceCtorEq, ↓reduceIte, ac13, df h, Bool.false_or]
theorem t14 (d : Dv) : CallP Tryd.prog 14 [dvV d] (.d (.bool (donS d))) := by
  refine go14 ac14 rfl ?_
  unfold donS
  rw [Bool.or_comm]
  by_cases h : d.at_ < 0
  · simp only [vx, vz, Nat.reduceAdd, Nat.reduceSub, Nat.reduceMul, Nat.reduceLeDiff, Nat.reduceLT, Nat.reduceEqDiff, Nat.reduceBEq, Int.reduceToNat, Int.reduceNeg, Int.reduceEq, Int.reduceNe, Int.reduceLE, Int.reduceLT, reduceCtorEq, ↓reduceIte, ac14, dt h, Bool.true_or]
  · simp only [vx, vz, Nat.reduceAdd, Nat.reduceSub, Nat.reduceMul, Nat.reduceLeDiff, Nat.reduceLT, Nat.reduceEqDiff, Nat.reduceBEq, Int.reduceToNat, Int.reduceNeg, Int.reduceEq, Int.reduceNe, Int.reduceLE, Int.reduceLT, reduceCtorEq, ↓reduceIte, ac14, df h, Bool.false_or]
/-- a slot that may not be sent -/
def badS (s : Slo) : Bool := !s.idl && !vldT s.tx
theorem t29 (s : Slo) (ok : okT s.tx) : CallP Tryd.prog 29 [slV s] (.d (.bool (badS s))) := by
  refine go29 ac29 rfl ?_
  unfold badS
  simp only [vx, vz, Nat.reduceAdd, Nat.reduceSub, Nat.reduceMul, Nat.reduceLeDiff, Nat.reduceLT, Nat.reduceEqDiff, Nat.reduceBEq, Int.reduceToNat, Int.reduceNeg, Int.reduceEq, Int.reduceNe, Int.reduceLE, Int.reduceLT, reduceCtorEq, ↓reduceIte, ac29]
  cases hi : s.idl with
  | true => simp only [vx, vz, Nat.reduceAdd, Nat.reduceSub, Nat.reduceMul, Nat.reduceLeDiff, Nat.reduceLT, Nat.reduceEqDiff, Nat.reduceBEq, Int.reduceToNat, Int.reduceNeg, Int.reduceEq, Int.reduceNe, Int.reduceLE, Int.reduceLT, reduceCtorEq, ↓reduceIte, Bool.false_and]
  | false =>
    simp only [vx, vz, Nat.reduceAdd, Nat.reduceSub, Nat.reduceMul, Nat.reduceLeDiff, Nat.reduceLT, Nat.reduceEqDiff, Nat.reduceBEq, Int.reduceToNat, Int.reduceNeg, Int.reduceEq, Int.reduceNe, Int.reduceLE, Int.reduceLT, reduceCtorEq, ↓reduceIte]
    refine call_p rfl (t30 s.tx (okT_X ok)) ?_
    simp only [vx, vz, Nat.reduceAdd, Nat.reduceSub, Nat.reduceMul, Nat.reduceLeDiff, Nat.reduceLT, Nat.reduceEqDiff, Nat.reduceBEq, Int.reduceToNat, Int.reduceNeg, Int.reduceEq, Int.reduceNe, Int.reduceLE, Int.reduceLT, reduceCtorEq, ↓reduceIte]
def fidx (p : Slo → Bool) : List Slo → Nat → Int
  | [], _ => -1
  | x :: l, i => if p x = true then (i : Int) else fidx p l (i + 1)
theorem fidx_ge (p : Slo → Bool) (l : List Slo) (k : Nat) : decide (0 ≤ fidx p l k) = l.any p := by
  induction l generalizing k with
  | nil => rfl
  | cons x l ih =>
    rw [fidx, List.any_cons]
    cases h : p x with
    | true => rw [if_pos rfl]; simp
    | false => rw [if_neg (by decide), ih]; simp
theorem t45 (l : List Slo) (ok : okLs l) : CallP Tryd.prog 45 [slL l, .fn (.func 29) [] []] (.d (.int .i64 (fidx badS l 0))) := by
  have hll := okLs_len ok
  refine go45 ac45 rfl ?_
  simp only [vx, vz, Nat.reduceAdd, Nat.reduceSub, Nat.reduceMul, Nat.reduceLeDiff, Nat.reduceLT, Nat.reduceEqDiff, Nat.reduceBEq, Int.reduceToNat, Int.reduceNeg, Int.reduceEq, Int.reduceNe, Int.reduceLE, Int.reduceLT, reduceCtorEq, ↓reduceIte, ac45]
  refine loop_st (fun i : Nat => ⟨mkF 19 [(0, slL l), (1, .fn (.func 29) [] []), (7, .d (.int .i64 l.length)), (8, .d (.int .i64 i))], []⟩) (fun i => i ≤ l.length ∧ fidx badS l 0 = fidx badS (l.drop i) i) (fun i => l.length - i) 0 (weak_any (by simp only [vx, vz, Nat.reduceAdd, Nat.reduceSub, Nat.reduceMul, Nat.reduceLeDiff, Nat.reduceLT, Nat.reduceEqDiff, Nat.reduceBEq, Int.reduceToNat, Int.reduceNeg, Int.reduceEq, Int.reduceNe, Int.reduceLE, Int.reduceLT, reduceCtorEq, ↓reduceIte]; try trivial)) ⟨by omega, rfl⟩ (fun i hi => ?_)
  obtain ⟨h1, h2⟩ := hi
  simp only [vx, vz, Nat.reduceAdd, Nat.reduceSub, Nat.reduceMul, Nat.reduceLeDiff, Nat.reduceLT, Nat.reduceEqDiff, Nat.reduceBEq, Int.reduceToNat, Int.reduceNeg, Int.reduceEq, Int.reduceNe, Int.reduceLE, Int.reduceLT, reduceCtorEq, ↓reduceIte]
  refine cond_split (fun hc => ?_) (fun hc => ?_)
  · simp only [decide_eq_true_eq] at hc
    obtain ⟨x, hx⟩ := get_ex (l := l) (i := i) (by omega)
    rw [drop_at hx, fidx] at h2
    simp only [vx, vz, Nat.reduceAdd, Nat.reduceSub, Nat.reduceMul, Nat.reduceLeDiff, Nat.reduceLT, Nat.reduceEqDiff, Nat.reduceBEq, Int.reduceToNat, Int.reduceNeg, Int.reduceEq, Int.reduceNe, Int.reduceLE, Int.reduceLT, reduceCtorEq, ↓reduceIte]
    refine ⟨by omega, by omega, getM_at hx ?_⟩
    simp only [vx, vz, Nat.reduceAdd, Nat.reduceSub, Nat.reduceMul, Nat.reduceLeDiff, Nat.reduceLT, Nat.reduceEqDiff, Nat.reduceBEq, Int.reduceToNat, Int.reduceNeg, Int.reduceEq, Int.reduceNe, Int.reduceLE, Int.reduceLT, reduceCtorEq, ↓reduceIte]
    simp only [vx, vz, Nat.reduceAdd, Nat.reduceSub, Nat.reduceMul, Nat.reduceLeDiff, Nat.reduceLT, Nat.reduceEqDiff, Nat.reduceBEq, Int.reduceToNat, Int.reduceNeg, Int.reduceEq, Int.reduceNe, Int.reduceLE, Int.reduceLT, reduceCtorEq, ↓reduceIte, Slo.d]
    refine call_p rfl (t29 x (ok.2 x (List.mem_of_getElem? hx))) ?_
    simp only [vx, vz, Nat.reduceAdd, Nat.reduceSub, Nat.reduceMul, Nat.reduceLeDiff, Nat.reduceLT, Nat.reduceEqDiff, Nat.reduceBEq, Int.reduceToNat, Int.reduceNeg, Int.reduceEq, Int.reduceNe, Int.reduceLE, Int.reduceLT, reduceCtorEq, ↓reduceIte]
    cases hb : badS x with
    | true =>
      rw [hb, if_pos rfl] at h2
      simp only [vx, vz, Nat.reduceAdd, Nat.reduceSub, Nat.reduceMul, Nat.reduceLeDiff, Nat.reduceLT, Nat.reduceEqDiff, Nat.reduceBEq, Int.reduceToNat, Int.reduceNeg, Int.reduceEq, Int.reduceNe, Int.reduceLE, Int.reduceLT, reduceCtorEq, ↓reduceIte, h2]
    | false =>
      rw [hb, if_neg (by decide)] at h2
      simp only [vx, vz, Nat.reduceAdd, Nat.reduceSub, Nat.reduceMul, Nat.reduceLeDiff, Nat.reduceLT, Nat.reduceEqDiff, Nat.reduceBEq, Int.reduceToNat, Int.reduceNeg, Int.reduceEq, Int.reduceNe, Int.reduceLE, Int.reduceLT, reduceCtorEq, ↓reduceIte]
      refine ls_n (i + 1) (by omega) (weak_any ?_) ⟨by omega, h2⟩
      simp only [vx, vz, Nat.reduceAdd, Nat.reduceSub, Nat.reduceMul, Nat.reduceLeDiff, Nat.reduceLT, Nat.reduceEqDiff, Nat.reduceBEq, Int.reduceToNat, Int.reduceNeg, Int.reduceEq, Int.reduceNe, Int.reduceLE, Int.reduceLT, reduceCtorEq, ↓reduceIte]
      rw [wr_i64 (by omega) (by omega)]
      first | trivial | exact ⟨rfl, rfl⟩
  · simp only [decide_eq_false_iff_not] at hc
    rw [drop_end (by omega), fidx] at h2
    simp only [vx, vz, Nat.reduceAdd, Nat.reduceSub, Nat.reduceMul, Nat.reduceLeDiff, Nat.reduceLT, Nat.reduceEqDiff, Nat.reduceBEq, Int.reduceToNat, Int.reduceNeg, Int.reduceEq, Int.reduceNe, Int.reduceLE, Int.reduceLT, reduceCtorEq, ↓reduceIte, h2]
theorem t28 (l : List Slo) (ok : okLs l) : CallP Tryd.prog 28 [slL l, .fn (.func 29) [] []] (.d (.bool (l.any badS))) := by
  refine go28 ac28 rfl ?_
  simp only [vx, vz, Nat.reduceAdd, Nat.reduceSub, Nat.reduceMul, Nat.reduceLeDiff, Nat.reduceLT, Nat.reduceEqDiff, Nat.reduceBEq, Int.reduceToNat, Int.reduceNeg, Int.reduceEq, Int.reduceNe, Int.reduceLE, Int.reduceLT, reduceCtorEq, ↓reduceIte, ac28]
  refine call_p rfl (t45 l ok) ?_
  simp only [vx, vz, Nat.reduceAdd, Nat.reduceSub, Nat.reduceMul, Nat.reduceLeDiff, Nat.reduceLT, Nat.reduceEqDiff, Nat.reduceBEq, Int.reduceToNat, Int.reduceNeg, Int.reduceEq, Int.reduceNe, Int.reduceLE, Int.reduceLT, reduceCtorEq, ↓reduceIte]
  rw [fidx_ge]
/-- a valid driver -/
def vldD (d : Dv) : Bool := !(decide (d.at_ < 0)) && (!(decide ((d.sl.length : Int) < d.at_)) && (!(decide (d.wt < 0)) && (!(decide (1099511627776 < d.wt)) && (!(decide (0 < d.wt) && !busS d) && !d.sl.any badS))))
theorem t11 (d : Dv) (ok : okLs d.sl) : CallP Tryd.prog 11 [dvV d] (.d (.bool (vldD d))) := by
  refine go11 ac11 rfl ?_
  unfold vldD
  by_cases h1 : d.at_ < 0
  · simp only [vx, vz, Nat.reduceAdd, Nat.reduceSub, Nat.reduceMul, Nat.reduceLeDiff, Nat.reduceLT, Nat.reduceEqDiff, Nat.reduceBEq, Int.reduceToNat, Int.reduceNeg, Int.reduceEq, Int.reduceNe, Int.reduceLE, Int.reduceLT, reduceCtorEq, ↓reduceIte, ac11, dt h1, Bool.false_and]
  · by_cases h2 : (d.sl.length : Int) < d.at_
    · simp only [vx, vz, Nat.reduceAdd, Nat.reduceSub, Nat.reduceMul, Nat.reduceLeDiff, Nat.reduceLT, Nat.reduceEqDiff, Nat.reduceBEq, Int.reduceToNat, Int.reduceNeg, Int.reduceEq, Int.reduceNe, Int.reduceLE, Int.reduceLT, reduceCtorEq, ↓reduceIte, ac11, df h1, dt h2, Bool.false_and]
    · by_cases h3 : d.wt < 0
      · simp only [vx, vz, Nat.reduceAdd, Nat.reduceSub, Nat.reduceMul, Nat.reduceLeDiff, Nat.reduceLT, Nat.reduceEqDiff, Nat.reduceBEq, Int.reduceToNat, Int.reduceNeg, Int.reduceEq, Int.reduceNe, Int.reduceLE, Int.reduceLT, reduceCtorEq, ↓reduceIte, ac11, df h1, df h2, dt h3, Bool.false_and]
      · by_cases h4 : 1099511627776 < d.wt
        · simp only [vx, vz, Nat.reduceAdd, Nat.reduceSub, Nat.reduceMul, Nat.reduceLeDiff, Nat.reduceLT, Nat.reduceEqDiff, Nat.reduceBEq, Int.reduceToNat, Int.reduceNeg, Int.reduceEq, Int.reduceNe, Int.reduceLE, Int.reduceLT, reduceCtorEq, ↓reduceIte, ac11, df h1, df h2, df h3, dt h4, Bool.false_and]
        · by_cases h5 : 0 < d.wt
          · simp only [vx, vz, Nat.reduceAdd, Nat.reduceSub, Nat.reduceMul, Nat.reduceLeDiff, Nat.reduceLT, Nat.reduceEqDiff, Nat.reduceBEq, Int.reduceToNat, Int.reduceNeg, Int.reduceEq, Int.reduceNe, Int.reduceLE, Int.reduceLT, reduceCtorEq, ↓reduceIte, ac11, df h1, df h2, df h3, df h4, dt h5]
            refine call_p rfl (t27 d) ?_
            simp only [vx, vz, Nat.reduceAdd, Nat.reduceSub, Nat.reduceMul, Nat.reduceLeDiff, Nat.reduceLT, Nat.reduceEqDiff, Nat.reduceBEq, Int.reduceToNat, Int.reduceNeg, Int.reduceEq, Int.reduceNe, Int.reduceLE, Int.reduceLT, reduceCtorEq, ↓reduceIte]
            cases hb : busS d with
            | false => simp only [vx, vz, Nat.reduceAdd, Nat.reduceSub, Nat.reduceMul, Nat.reduceLeDiff, Nat.reduceLT, Nat.reduceEqDiff, Nat.reduceBEq, Int.reduceToNat, Int.reduceNeg, Int.reduceEq, Int.reduceNe, Int.reduceLE, Int.reduceLT, reduceCtorEq, ↓reduceIte, Bool.false_and]
            | true =>
              simp only [vx, vz, Nat.reduceAdd, Nat.reduceSub, Nat.reduceMul, Nat.reduceLeDiff, Nat.reduceLT, Nat.reduceEqDiff, Nat.reduceBEq, Int.reduceToNat, Int.reduceNeg, Int.reduceEq, Int.reduceNe, Int.reduceLE, Int.reduceLT, reduceCtorEq, ↓reduceIte]
              refine call_p rfl (t28 d.sl ok) ?_
              simp only [vx, vz, Nat.reduceAdd, Nat.reduceSub, Nat.reduceMul, Nat.reduceLeDiff, Nat.reduceLT, Nat.reduceEqDiff, Nat.reduceBEq, Int.reduceToNat, Int.reduceNeg, Int.reduceEq, Int.reduceNe, Int.reduceLE, Int.reduceLT, reduceCtorEq, ↓reduceIte]
          · simp only [vx, vz, Nat.reduceAdd, Nat.reduceSub, Nat.reduceMul, Nat.reduceLeDiff, Nat.reduceLT, Nat.reduceEqDiff, Nat.reduceBEq, Int.reduceToNat, Int.reduceNeg, Int.reduceEq, Int.reduceNe, Int.reduceLE, Int.reduceLT, reduceCtorEq, ↓reduceIte, ac11, df h1, df h2, df h3, df h4, df h5, Bool.false_and]
            refine call_p rfl (t28 d.sl ok) ?_
            simp only [vx, vz, Nat.reduceAdd, Nat.reduceSub, Nat.reduceMul, Nat.reduceLeDiff, Nat.reduceLT, Nat.reduceEqDiff, Nat.reduceBEq, Int.reduceToNat, Int.reduceNeg, Int.reduceEq, Int.reduceNe, Int.reduceLE, Int.reduceLT, reduceCtorEq, ↓reduceIte]
theorem t12 (d : Dv) (ok : okLs d.sl) : CallP Tryd.prog 12 [dvV d] (.d (.bool (vldD d))) := by
  have hll := okLs_len ok
  refine go12 ac12 rfl ?_
  unfold vldD
  by_cases h1 : d.at_ < 0
  · simp only [vx, vz, Nat.reduceAdd, Nat.reduceSub, Nat.reduceMul, Nat.reduceLeDiff, Nat.reduceLT, Nat.reduceEqDiff, Nat.reduceBEq, Int.reduceToNat, Int.reduceNeg, Int.reduceEq, Int.reduceNe, Int.reduceLE, Int.reduceLT, reduceCtorEq, ↓reduceIte, ac12, dt h1, Bool.false_and]
  · by_cases h2 : (d.sl.length : Int) < d.at_
    · simp only [vx, vz, Nat.reduceAdd, Nat.reduceSub, Nat.reduceMul, Nat.reduceLeDiff, Nat.reduceLT, Nat.reduceEqDiff, Nat.reduceBEq, Int.reduceToNat, Int.reduceNeg, Int.reduceEq, Int.reduceNe, Int.reduceLE, Int.reduceLT, reduceCtorEq, ↓reduceIte, ac12, df h1, dt h2, Bool.false_and]
    · by_cases h3 : d.wt < 0
      · simp only [vx, vz, Nat.reduceAdd, Nat.reduceSub, Nat.reduceMul, Nat.reduceLeDiff, Nat.reduceLT, Nat.reduceEqDiff, Nat.reduceBEq, Int.reduceToNat, Int.reduceNeg, Int.reduceEq, Int.reduceNe, Int.reduceLE, Int.reduceLT, reduceCtorEq, ↓reduceIte, ac12, df h1, df h2, dt h3, Bool.false_and]
      · by_cases h4 : 1099511627776 < d.wt
        · simp only [vx, vz, Nat.reduceAdd, Nat.reduceSub, Nat.reduceMul, Nat.reduceLeDiff, Nat.reduceLT, Nat.reduceEqDiff, Nat.reduceBEq, Int.reduceToNat, Int.reduceNeg, Int.reduceEq, Int.reduceNe, Int.reduceLE, Int.reduceLT, reduceCtorEq, ↓reduceIte, ac12, df h1, df h2, df h3, dt h4, Bool.false_and]
        · simp only [vx, vz, Nat.reduceAdd, Nat.reduceSub, Nat.reduceMul, Nat.reduceLeDiff, Nat.reduceLT, Nat.reduceEqDiff, Nat.reduceBEq, Int.reduceToNat, Int.reduceNeg, Int.reduceEq, Int.reduceNe, Int.reduceLE, Int.reduceLT, reduceCtorEq, ↓reduceIte, ac12, df h1, df h2, df h3, df h4]
          refine loop_st (fun i : Nat => ⟨mkF 56 [(1, .optr 3 0 1 0 0), (3, .d (.int .i64 i))], [.live 3 [[slL d.sl, .d (.int .i64 d.at_), .d (.int .i64 d.wt)]]]⟩) (fun i => i ≤ d.sl.length ∧ d.sl.any badS = (d.sl.drop i).any badS) (fun i => d.sl.length - i) 0 (weak_any (by simp only [vx, vz, Nat.reduceAdd, Nat.reduceSub, Nat.reduceMul, Nat.reduceLeDiff, Nat.reduceLT, Nat.reduceEqDiff, Nat.reduceBEq, Int.reduceToNat, Int.reduceNeg, Int.reduceEq, Int.reduceNe, Int.reduceLE, Int.reduceLT, reduceCtorEq, ↓reduceIte]; try trivial)) ⟨by omega, rfl⟩ (fun i hi => ?_)
          obtain ⟨g1, g2⟩ := hi
          simp only [vx, vz, Nat.reduceAdd, Nat.reduceSub, Nat.reduceMul, Nat.reduceLeDiff, Nat.reduceLT, Nat.reduceEqDiff, Nat.reduceBEq, Int.reduceToNat, Int.reduceNeg, Int.reduceEq, Int.reduceNe, Int.reduceLE, Int.reduceLT, reduceCtorEq, ↓reduceIte]
          refine cond_split (fun hc => ?_) (fun hc => ?_)
          · simp only [decide_eq_true_eq] at hc
            obtain ⟨x, hx⟩ := get_ex (l := d.sl) (i := i) (by omega)
            rw [drop_at hx, List.any_cons] at g2
            unfold badS at g2
            simp only [vx, vz, Nat.reduceAdd, Nat.reduceSub, Nat.reduceMul, Nat.reduceLeDiff, Nat.reduceLT, Nat.reduceEqDiff, Nat.reduceBEq, Int.reduceToNat, Int.reduceNeg, Int.reduceEq, Int.reduceNe, Int.reduceLE, Int.reduceLT, reduceCtorEq, ↓reduceIte]
            refine ⟨by omega, by omega, getM_at hx ?_⟩
            simp only [vx, vz, Nat.reduceAdd, Nat.reduceSub, Nat.reduceMul, Nat.reduceLeDiff, Nat.reduceLT, Nat.reduceEqDiff, Nat.reduceBEq, Int.reduceToNat, Int.reduceNeg, Int.reduceEq, Int.reduceNe, Int.reduceLE, Int.reduceLT, reduceCtorEq, ↓reduceIte]
            simp only [vx, vz, Nat.reduceAdd, Nat.reduceSub, Nat.reduceMul, Nat.reduceLeDiff, Nat.reduceLT, Nat.reduceEqDiff, Nat.reduceBEq, Int.reduceToNat, Int.reduceNeg, Int.reduceEq, Int.reduceNe, Int.reduceLE, Int.reduceLT, reduceCtorEq, ↓reduceIte, Slo.d]
            cases hi : x.idl with
            | true =>
              rw [hi, show (!true) = false from rfl, Bool.false_and, Bool.false_or] at g2
              simp only [vx, vz, Nat.reduceAdd, Nat.reduceSub, Nat.reduceMul, Nat.reduceLeDiff, Nat.reduceLT, Nat.reduceEqDiff, Nat.reduceBEq, Int.reduceToNat, Int.reduceNeg, Int.reduceEq, Int.reduceNe, Int.reduceLE, Int.reduceLT, reduceCtorEq, ↓reduceIte]
              refine ls_n (i + 1) (by omega) (weak_any ?_) ⟨by omega, g2⟩
              simp only [vx, vz, Nat.reduceAdd, Nat.reduceSub, Nat.reduceMul, Nat.reduceLeDiff, Nat.reduceLT, Nat.reduceEqDiff, Nat.reduceBEq, Int.reduceToNat, Int.reduceNeg, Int.reduceEq, Int.reduceNe, Int.reduceLE, Int.reduceLT, reduceCtorEq, ↓reduceIte]
              rw [wr_i64 (by omega) (by omega)]
              first | trivial | exact ⟨rfl, rfl⟩
            | false =>
              rw [hi, show (!false) = true from rfl, Bool.true_and] at g2
              simp only [vx, vz, Nat.reduceAdd, Nat.reduceSub, Nat.reduceMul, Nat.reduceLeDiff, Nat.reduceLT, Nat.reduceEqDiff, Nat.reduceBEq, Int.reduceToNat, Int.reduceNeg, Int.reduceEq, Int.reduceNe, Int.reduceLE, Int.reduceLT, reduceCtorEq, ↓reduceIte]
              refine ⟨by omega, by omega, getM_at hx ?_⟩
              simp only [vx, vz, Nat.reduceAdd, Nat.reduceSub, Nat.reduceMul, Nat.reduceLeDiff, Nat.reduceLT, Nat.reduceEqDiff, Nat.reduceBEq, Int.reduceToNat, Int.reduceNeg, Int.reduceEq, Int.reduceNe, Int.reduceLE, Int.reduceLT, reduceCtorEq, ↓reduceIte]
              simp only [vx, vz, Nat.reduceAdd, Nat.reduceSub, Nat.reduceMul, Nat.reduceLeDiff, Nat.reduceLT, Nat.reduceEqDiff, Nat.reduceBEq, Int.reduceToNat, Int.reduceNeg, Int.reduceEq, Int.reduceNe, Int.reduceLE, Int.reduceLT, reduceCtorEq, ↓reduceIte, Slo.d]
              refine call_p rfl (t24 x.tx (okT_X (ok.2 x (List.mem_of_getElem? hx)))) ?_
              simp only [vx, vz, Nat.reduceAdd, Nat.reduceSub, Nat.reduceMul, Nat.reduceLeDiff, Nat.reduceLT, Nat.reduceEqDiff, Nat.reduceBEq, Int.reduceToNat, Int.reduceNeg, Int.reduceEq, Int.reduceNe, Int.reduceLE, Int.reduceLT, reduceCtorEq, ↓reduceIte]
              cases hv : vldT x.tx with
              | true =>
                rw [hv, show (!true) = false from rfl, Bool.false_or] at g2
                simp only [vx, vz, Nat.reduceAdd, Nat.reduceSub, Nat.reduceMul, Nat.reduceLeDiff, Nat.reduceLT, Nat.reduceEqDiff, Nat.reduceBEq, Int.reduceToNat, Int.reduceNeg, Int.reduceEq, Int.reduceNe, Int.reduceLE, Int.reduceLT, reduceCtorEq, ↓reduceIte]
                refine ls_n (i + 1) (by omega) (weak_any ?_) ⟨by omega, g2⟩
                simp only [vx, vz, Nat.reduceAdd, Nat.reduceSub, Nat.reduceMul, Nat.reduceLeDiff, Nat.reduceLT, Nat.reduceEqDiff, Nat.reduceBEq, Int.reduceToNat, Int.reduceNeg, Int.reduceEq, Int.reduceNe, Int.reduceLE, Int.reduceLT, reduceCtorEq, ↓reduceIte]
                rw [wr_i64 (by omega) (by omega)]
                first | trivial | exact ⟨rfl, rfl⟩
              | false =>
                rw [hv, show (!false) = true from rfl, Bool.true_or] at g2
                rw [show d.sl.any badS = true from g2]
                simp only [vx, vz, Nat.reduceAdd, Nat.reduceSub, Nat.reduceMul, Nat.reduceLeDiff, Nat.reduceLT, Nat.reduceEqDiff, Nat.reduceBEq, Int.reduceToNat, Int.reduceNeg, Int.reduceEq, Int.reduceNe, Int.reduceLE, Int.reduceLT, reduceCtorEq, ↓reduceIte, Bool.and_false]
          · simp only [decide_eq_false_iff_not] at hc
            rw [drop_end (by omega), List.any_nil] at g2
            rw [g2]
            by_cases h5 : 0 < d.wt
            · simp only [vx, vz, Nat.reduceAdd, Nat.reduceSub, Nat.reduceMul, Nat.reduceLeDiff, Nat.reduceLT, Nat.reduceEqDiff, Nat.reduceBEq, Int.reduceToNat, Int.reduceNeg, Int.reduceEq, Int.reduceNe, Int.reduceLE, Int.reduceLT, reduceCtorEq, ↓reduceIte, df (show ¬ d.wt = 0 by omega), dt h5]
              refine call_p rfl (t31 d) ?_
              simp only [vx, vz, Nat.reduceAdd, Nat.reduceSub, Nat.reduceMul, Nat.reduceLeDiff, Nat.reduceLT, Nat.reduceEqDiff, Nat.reduceBEq, Int.reduceToNat, Int.reduceNeg, Int.reduceEq, Int.reduceNe, Int.reduceLE, Int.reduceLT, reduceCtorEq, ↓reduceIte]
              cases busS d <;> rfl
            · simp only [vx, vz, Nat.reduceAdd, Nat.reduceSub, Nat.reduceMul, Nat.reduceLeDiff, Nat.reduceLT, Nat.reduceEqDiff, Nat.reduceBEq, Int.reduceToNat, Int.reduceNeg, Int.reduceEq, Int.reduceNe, Int.reduceLE, Int.reduceLT, reduceCtorEq, ↓reduceIte, dt (show d.wt = 0 by omega), df h5, Bool.false_and]
end Go.Proofs.Dr

namespace Go.Proofs.Dr
open Go.Vx
def waitI (w : Int) : Int := if 1099511627776 < w + 1 then 1099511627776 else w + 1
theorem t40 (d : Dv) (h : 0 ≤ d.at_ ∧ d.at_ ≤ 4000000000000) : CallP Tryd.prog 40 [dvV d] (.tup [dvV ⟨d.sl, d.at_ + 1, 0⟩, .d (.bool false)]) := by
  refine go40 ac40 rfl ?_
  simp only [vx, vz, Nat.reduceAdd, Nat.reduceSub, Nat.reduceMul, Nat.reduceLeDiff, Nat.reduceLT, Nat.reduceEqDiff, Nat.reduceBEq, Int.reduceToNat, Int.reduceNeg, Int.reduceEq, Int.reduceNe, Int.reduceLE, Int.reduceLT, reduceCtorEq, ↓reduceIte, ac40]
  rw [wr_i64 (by omega) (by omega)]
  first | trivial | exact ⟨.d _, rfl⟩ | exact .d _
theorem t42 (d : Dv) (h : 0 ≤ d.at_ ∧ d.at_ ≤ 4000000000000) : CallP Tryd.prog 42 [dvV d] (.tup [dvV ⟨d.sl, d.at_ + 1, 0⟩, .d (.bool true)]) := by
  refine go42 ac42 rfl ?_
  simp only [vx, vz, Nat.reduceAdd, Nat.reduceSub, Nat.reduceMul, Nat.reduceLeDiff, Nat.reduceLT, Nat.reduceEqDiff, Nat.reduceBEq, Int.reduceToNat, Int.reduceNeg, Int.reduceEq, Int.reduceNe, Int.reduceLE, Int.reduceLT, reduceCtorEq, ↓reduceIte, ac42]
  rw [wr_i64 (by omega) (by omega)]
  first | trivial | exact ⟨.d _, rfl⟩ | exact .d _
theorem t41 (d : Dv) (h : 0 ≤ d.wt ∧ d.wt ≤ 4000000000000) : CallP Tryd.prog 41 [dvV d] (.tup [dvV ⟨d.sl, d.at_, waitI d.wt⟩, .d (.bool false)]) := by
  refine go41 ac41 rfl ?_
  simp only [vx, vz, Nat.reduceAdd, Nat.reduceSub, Nat.reduceMul, Nat.reduceLeDiff, Nat.reduceLT, Nat.reduceEqDiff, Nat.reduceBEq, Int.reduceToNat, Int.reduceNeg, Int.reduceEq, Int.reduceNe, Int.reduceLE, Int.reduceLT, reduceCtorEq, ↓reduceIte, ac41]
  rw [wr_i64 (by omega) (by omega)]
  first | trivial | exact ⟨.d _, rfl⟩ | exact .d _ | exact ⟨.d _, rfl, rfl⟩
/-- the driver behind a cycle -/
def stpS (d : Dv) (r : Bool) : Dv × Bool :=
  if (nowS d).isSome = false ∨ vldD d = false then (d, false)
  else if busS d = false then (⟨d.sl, d.at_ + 1, 0⟩, false)
  else if r = true then (⟨d.sl, d.at_ + 1, 0⟩, true) else (⟨d.sl, d.at_, waitI d.wt⟩, false)
theorem vld_in {d : Dv} (h : vldD d = true) : 0 ≤ d.at_ ∧ d.at_ ≤ d.sl.length ∧ 0 ≤ d.wt ∧ d.wt ≤ 1099511627776 ∧ (0 < d.wt → busS d = true) ∧ d.sl.any badS = false := by
  simp only [vldD, Bool.and_eq_true, Bool.not_eq_true', decide_eq_false_iff_not, Bool.and_eq_false_iff, decide_eq_false_iff_not, Bool.not_eq_false'] at h
  obtain ⟨h1, h2, h3, h4, h5, h6⟩ := h
  refine ⟨by omega, by omega, by omega, by omega, fun hw => ?_, h6⟩
  rcases h5 with h5 | h5
  · exact absurd hw h5
  · exact h5
theorem now_some {d : Dv} : (nowS d).isSome = (decide (0 ≤ d.at_) && decide (d.at_ < d.sl.length)) := by
  by_cases h1 : 0 ≤ d.at_
  · by_cases h2 : d.at_ < d.sl.length
    · obtain ⟨i, hi⟩ : ∃ i : Nat, d.at_ = i := ⟨d.at_.toNat, by omega⟩
      obtain ⟨s, hs⟩ := get_ex (l := d.sl) (i := i) (by omega)
      rw [now_at hi hs, dt h1, dt h2]; rfl
    · rw [now_no (.inr (by omega)), df h2, Bool.and_false]; rfl
  · rw [now_no (.inl (by omega)), df h1]; rfl
abbrev stV (p : Dv × Bool) : V := .tup [dvV p.1, .d (.bool p.2)]
theorem t22 (d : Dv) (r : Bool) (ok : okLs d.sl) : CallP Tryd.prog 22 [dvV d, .d (.bool r)] (stV (stpS d r)) := by
  have hll := okLs_len ok
  refine go22 ac22 rfl ?_
  simp only [vx, vz, Nat.reduceAdd, Nat.reduceSub, Nat.reduceMul, Nat.reduceLeDiff, Nat.reduceLT, Nat.reduceEqDiff, Nat.reduceBEq, Int.reduceToNat, Int.reduceNeg, Int.reduceEq, Int.reduceNe, Int.reduceLE, Int.reduceLT, reduceCtorEq, ↓reduceIte, ac22]
  refine call_p rfl (t25 d.sl ok.1 ok.2) ?_
  simp only [vx, vz, Nat.reduceAdd, Nat.reduceSub, Nat.reduceMul, Nat.reduceLeDiff, Nat.reduceLT, Nat.reduceEqDiff, Nat.reduceBEq, Int.reduceToNat, Int.reduceNeg, Int.reduceEq, Int.reduceNe, Int.reduceLE, Int.reduceLT, reduceCtorEq, ↓reduceIte]
  refine call_p rfl (t39 d) ?_
  simp only [vx, vz, Nat.reduceAdd, Nat.reduceSub, Nat.reduceMul, Nat.reduceLeDiff, Nat.reduceLT, Nat.reduceEqDiff, Nat.reduceBEq, Int.reduceToNat, Int.reduceNeg, Int.reduceEq, Int.reduceNe, Int.reduceLE, Int.reduceLT, reduceCtorEq, ↓reduceIte]
  have key : ∀ v, (nowS d).isSome = v → stpS d r = if v = false ∨ vldD d = false then (d, false)
      else if busS d = false then (⟨d.sl, d.at_ + 1, 0⟩, false)
      else if r = true then (⟨d.sl, d.at_ + 1, 0⟩, true) else (⟨d.sl, d.at_, waitI d.wt⟩, false) := fun v hv => by rw [stpS, hv]
  cases hs : (nowS d).isSome with
  | false =>
    rw [key _ hs, if_pos (.inl rfl)]
    simp only [vx, vz, Nat.reduceAdd, Nat.reduceSub, Nat.reduceMul, Nat.reduceLeDiff, Nat.reduceLT, Nat.reduceEqDiff, Nat.reduceBEq, Int.reduceToNat, Int.reduceNeg, Int.reduceEq, Int.reduceNe, Int.reduceLE, Int.reduceLT, reduceCtorEq, ↓reduceIte]
    first | trivial | exact ⟨.d _, rfl⟩ | exact .d _
  | true =>
    simp only [vx, vz, Nat.reduceAdd, Nat.reduceSub, Nat.reduceMul, Nat.reduceLeDiff, Nat.reduceLT, Nat.reduceEqDiff, Nat.reduceBEq, Int.reduceToNat, Int.reduceNeg, Int.reduceEq, Int.reduceNe, Int.reduceLE, Int.reduceLT, reduceCtorEq, ↓reduceIte]
    refine call_p rfl (t11 d ok) ?_
    simp only [vx, vz, Nat.reduceAdd, Nat.reduceSub, Nat.reduceMul, Nat.reduceLeDiff, Nat.reduceLT, Nat.reduceEqDiff, Nat.reduceBEq, Int.reduceToNat, Int.reduceNeg, Int.reduceEq, Int.reduceNe, Int.reduceLE, Int.reduceLT, reduceCtorEq, ↓reduceIte]
    cases hv : vldD d with
    | false =>
      rw [key _ hs, if_pos (.inr hv)]
      simp only [vx, vz, Nat.reduceAdd, Nat.reduceSub, Nat.reduceMul, Nat.reduceLeDiff, Nat.reduceLT, Nat.reduceEqDiff, Nat.reduceBEq, Int.reduceToNat, Int.reduceNeg, Int.reduceEq, Int.reduceNe, Int.reduceLE, Int.reduceLT, reduceCtorEq, ↓reduceIte]
      first | trivial | exact ⟨.d _, rfl⟩ | exact .d _
    | true =>
      obtain ⟨h1, h2, h3, h4, _, _⟩ := vld_in hv
      have hg : ¬ (true = false ∨ vldD d = false) := by rw [hv]; decide
      rw [key _ hs, if_neg hg]
      simp only [vx, vz, Nat.reduceAdd, Nat.reduceSub, Nat.reduceMul, Nat.reduceLeDiff, Nat.reduceLT, Nat.reduceEqDiff, Nat.reduceBEq, Int.reduceToNat, Int.reduceNeg, Int.reduceEq, Int.reduceNe, Int.reduceLE, Int.reduceLT, reduceCtorEq, ↓reduceIte]
      refine call_p rfl (t27 d) ?_
      simp only [vx, vz, Nat.reduceAdd, Nat.reduceSub, Nat.reduceMul, Nat.reduceLeDiff, Nat.reduceLT, Nat.reduceEqDiff, Nat.reduceBEq, Int.reduceToNat, Int.reduceNeg, Int.reduceEq, Int.reduceNe, Int.reduceLE, Int.reduceLT, reduceCtorEq, ↓reduceIte]
      cases hb : busS d with
      | false =>
        rw [if_pos rfl]
        simp only [vx, vz, Nat.reduceAdd, Nat.reduceSub, Nat.reduceMul, Nat.reduceLeDiff, Nat.reduceLT, Nat.reduceEqDiff, Nat.reduceBEq, Int.reduceToNat, Int.reduceNeg, Int.reduceEq, Int.reduceNe, Int.reduceLE, Int.reduceLT, reduceCtorEq, ↓reduceIte]
        refine call_p rfl (t40 d (by omega)) ?_
        simp only [vx, vz, Nat.reduceAdd, Nat.reduceSub, Nat.reduceMul, Nat.reduceLeDiff, Nat.reduceLT, Nat.reduceEqDiff, Nat.reduceBEq, Int.reduceToNat, Int.reduceNeg, Int.reduceEq, Int.reduceNe, Int.reduceLE, Int.reduceLT, reduceCtorEq, ↓reduceIte]
        first | trivial | exact ⟨.d _, rfl⟩ | exact .d _
      | true =>
        rw [if_neg (by decide)]
        simp only [vx, vz, Nat.reduceAdd, Nat.reduceSub, Nat.reduceMul, Nat.reduceLeDiff, Nat.reduceLT, Nat.reduceEqDiff, Nat.reduceBEq, Int.reduceToNat, Int.reduceNeg, Int.reduceEq, Int.reduceNe, Int.reduceLE, Int.reduceLT, reduceCtorEq, ↓reduceIte]
        cases r with
        | true =>
          simp only [vx, vz, Nat.reduceAdd, Nat.reduceSub, Nat.reduceMul, Nat.reduceLeDiff, Nat.reduceLT, Nat.reduceEqDiff, Nat.reduceBEq, Int.reduceToNat, Int.reduceNeg, Int.reduceEq, Int.reduceNe, Int.reduceLE, Int.reduceLT, reduceCtorEq, ↓reduceIte]
          refine call_p rfl (t42 d (by omega)) ?_
          simp only [vx, vz, Nat.reduceAdd, Nat.reduceSub, Nat.reduceMul, Nat.reduceLeDiff, Nat.reduceLT, Nat.reduceEqDiff, Nat.reduceBEq, Int.reduceToNat, Int.reduceNeg, Int.reduceEq, Int.reduceNe, Int.reduceLE, Int.reduceLT, reduceCtorEq, ↓reduceIte]
          first | trivial | exact ⟨.d _, rfl⟩ | exact .d _
        | false =>
          simp only [vx, vz, Nat.reduceAdd, Nat.reduceSub, Nat.reduceMul, Nat.reduceLeDiff, Nat.reduceLT, Nat.reduceEqDiff, Nat.reduceBEq, Int.reduceToNat, Int.reduceNeg, Int.reduceEq, Int.reduceNe, Int.reduceLE, Int.reduceLT, reduceCtorEq, ↓reduceIte]
          refine call_p rfl (t41 d (by omega)) ?_
          simp only [vx, vz, Nat.reduceAdd, Nat.reduceSub, Nat.reduceMul, Nat.reduceLeDiff, Nat.reduceLT, Nat.reduceEqDiff, Nat.reduceBEq, Int.reduceToNat, Int.reduceNeg, Int.reduceEq, Int.reduceNe, Int.reduceLE, Int.reduceLT, reduceCtorEq, ↓reduceIte]
          first | trivial | exact ⟨.d _, rfl⟩ | exact .d _
end Go.Proofs.Dr

namespace Go.Proofs.Dr
open Go.Vx
theorem sn_slL {rows : Go.Vx.Rows} {l : List Slo} {h : Nat} (hr : Go.Vx.rowAt rows h = .live 4 ((l.map Slo.d).map (·.map .d))) : Snap rows (.osl 4 h l.length 0 l.length) (slL l) :=
  sn_all (es := l.map Slo.d) hr (by simp) szl
theorem t23 (d : Dv) (r : Bool) (ok : okLs d.sl) : CallP Tryd.prog 23 [dvV d, .d (.bool r)] (stV (stpS d r)) := by
  have hll := okLs_len ok
  have := rchN; have := mxB; have := ok.1
  refine go23 ac23 rfl ?_
  simp only [vx, vz, Nat.reduceAdd, Nat.reduceSub, Nat.reduceMul, Nat.reduceLeDiff, Nat.reduceLT, Nat.reduceEqDiff, Nat.reduceBEq, Int.reduceToNat, Int.reduceNeg, Int.reduceEq, Int.reduceNe, Int.reduceLE, Int.reduceLT, reduceCtorEq, ↓reduceIte, ac23]
  refine c_draw ?_
  simp only [vx, vz, Nat.reduceAdd, Nat.reduceSub, Nat.reduceMul, Nat.reduceLeDiff, Nat.reduceLT, Nat.reduceEqDiff, Nat.reduceBEq, Int.reduceToNat, Int.reduceNeg, Int.reduceEq, Int.reduceNe, Int.reduceLE, Int.reduceLT, reduceCtorEq, ↓reduceIte]
  repeat (refine d_k rfl rfl ?_; simp only [vx, vz, Nat.reduceAdd, Nat.reduceSub, Nat.reduceMul, Nat.reduceLeDiff, Nat.reduceLT, Nat.reduceEqDiff, Nat.reduceBEq, Int.reduceToNat, Int.reduceNeg, Int.reduceEq, Int.reduceNe, Int.reduceLE, Int.reduceLT, reduceCtorEq, ↓reduceIte])
  refine ⟨by omega, ?_⟩
  repeat (refine d_k rfl rfl ?_; simp only [vx, vz, Nat.reduceAdd, Nat.reduceSub, Nat.reduceMul, Nat.reduceLeDiff, Nat.reduceLT, Nat.reduceEqDiff, Nat.reduceBEq, Int.reduceToNat, Int.reduceNeg, Int.reduceEq, Int.reduceNe, Int.reduceLE, Int.reduceLT, reduceCtorEq, ↓reduceIte])
  refine call_p rfl (t12 d ok) ?_
  simp only [vx, vz, Nat.reduceAdd, Nat.reduceSub, Nat.reduceMul, Nat.reduceLeDiff, Nat.reduceLT, Nat.reduceEqDiff, Nat.reduceBEq, Int.reduceToNat, Int.reduceNeg, Int.reduceEq, Int.reduceNe, Int.reduceLE, Int.reduceLT, reduceCtorEq, ↓reduceIte]
  rw [stpS, now_some]
  cases hv : vldD d with
  | false =>
    rw [if_pos (.inr rfl)]
    simp only [vx, vz, Nat.reduceAdd, Nat.reduceSub, Nat.reduceMul, Nat.reduceLeDiff, Nat.reduceLT, Nat.reduceEqDiff, Nat.reduceBEq, Int.reduceToNat, Int.reduceNeg, Int.reduceEq, Int.reduceNe, Int.reduceLE, Int.reduceLT, reduceCtorEq, ↓reduceIte]
    first | trivial | exact ⟨sn_slL rfl, rfl⟩ | exact sn_slL rfl
  | true =>
    obtain ⟨h1, h2, h3, h4, h5, _⟩ := vld_in hv
    simp only [vx, vz, Nat.reduceAdd, Nat.reduceSub, Nat.reduceMul, Nat.reduceLeDiff, Nat.reduceLT, Nat.reduceEqDiff, Nat.reduceBEq, Int.reduceToNat, Int.reduceNeg, Int.reduceEq, Int.reduceNe, Int.reduceLE, Int.reduceLT, reduceCtorEq, ↓reduceIte]
    by_cases he : d.at_ = (d.sl.length : Int)
    · rw [if_pos (.inl (by rw [df (show ¬ d.at_ < (d.sl.length : Int) by omega), Bool.and_false]))]
      simp only [vx, vz, Nat.reduceAdd, Nat.reduceSub, Nat.reduceMul, Nat.reduceLeDiff, Nat.reduceLT, Nat.reduceEqDiff, Nat.reduceBEq, Int.reduceToNat, Int.reduceNeg, Int.reduceEq, Int.reduceNe, Int.reduceLE, Int.reduceLT, reduceCtorEq, ↓reduceIte, dt he]
      first | trivial | exact ⟨sn_slL rfl, rfl⟩ | exact sn_slL rfl
    · rw [if_neg (by rw [dt h1, dt (show d.at_ < (d.sl.length : Int) by omega)]; decide)]
      simp only [vx, vz, Nat.reduceAdd, Nat.reduceSub, Nat.reduceMul, Nat.reduceLeDiff, Nat.reduceLT, Nat.reduceEqDiff, Nat.reduceBEq, Int.reduceToNat, Int.reduceNeg, Int.reduceEq, Int.reduceNe, Int.reduceLE, Int.reduceLT, reduceCtorEq, ↓reduceIte, df he]
      refine call_p rfl (t31 d) ?_
      simp only [vx, vz, Nat.reduceAdd, Nat.reduceSub, Nat.reduceMul, Nat.reduceLeDiff, Nat.reduceLT, Nat.reduceEqDiff, Nat.reduceBEq, Int.reduceToNat, Int.reduceNeg, Int.reduceEq, Int.reduceNe, Int.reduceLE, Int.reduceLT, reduceCtorEq, ↓reduceIte]
      cases hb : busS d with
      | false =>
        have hw : d.wt = 0 := by
          have : ¬ 0 < d.wt := fun h => by have := h5 h; rw [hb] at this; cases this
          omega
        rw [if_pos rfl]
        simp only [vx, vz, Nat.reduceAdd, Nat.reduceSub, Nat.reduceMul, Nat.reduceLeDiff, Nat.reduceLT, Nat.reduceEqDiff, Nat.reduceBEq, Int.reduceToNat, Int.reduceNeg, Int.reduceEq, Int.reduceNe, Int.reduceLE, Int.reduceLT, reduceCtorEq, ↓reduceIte]
        rw [wr_i64 (by omega) (by omega), hw]
        exact ⟨sn_slL rfl, rfl, rfl⟩
      | true =>
        rw [if_neg (by decide)]
        simp only [vx, vz, Nat.reduceAdd, Nat.reduceSub, Nat.reduceMul, Nat.reduceLeDiff, Nat.reduceLT, Nat.reduceEqDiff, Nat.reduceBEq, Int.reduceToNat, Int.reduceNeg, Int.reduceEq, Int.reduceNe, Int.reduceLE, Int.reduceLT, reduceCtorEq, ↓reduceIte]
        cases r with
        | true =>
          rw [if_pos rfl]
          simp only [vx, vz, Nat.reduceAdd, Nat.reduceSub, Nat.reduceMul, Nat.reduceLeDiff, Nat.reduceLT, Nat.reduceEqDiff, Nat.reduceBEq, Int.reduceToNat, Int.reduceNeg, Int.reduceEq, Int.reduceNe, Int.reduceLE, Int.reduceLT, reduceCtorEq, ↓reduceIte]
          rw [wr_i64 (by omega) (by omega)]
          first | trivial | exact ⟨sn_slL rfl, rfl⟩ | exact sn_slL rfl
        | false =>
          rw [if_neg (by decide)]
          simp only [vx, vz, Nat.reduceAdd, Nat.reduceSub, Nat.reduceMul, Nat.reduceLeDiff, Nat.reduceLT, Nat.reduceEqDiff, Nat.reduceBEq, Int.reduceToNat, Int.reduceNeg, Int.reduceEq, Int.reduceNe, Int.reduceLE, Int.reduceLT, reduceCtorEq, ↓reduceIte]
          rw [wr_i64 (by omega) (by omega)]
          refine ⟨sn_slL (by rfl), ?_⟩
          first | trivial | rfl | exact ⟨rfl, rfl⟩
/-- what has been sent -/
def sntL (l : List Slo) : List Tx := (l.filter fun s => !s.idl).map Slo.tx
def sntS (d : Dv) : List Tx := if vldD d = true then sntL (d.sl.take d.at_.toNat) else []
theorem snt_snoc {l : List Slo} {i : Nat} {x : Slo} (h : l[i]? = some x) : sntL (l.take (i + 1)) = if x.idl = true then sntL (l.take i) else sntL (l.take i) ++ [x.tx] := by
  rw [take_at h, sntL, List.filter_append, List.map_append]
  cases hx : x.idl <;> simp [hx, sntL]
theorem snt_len {l : List Slo} {i : Nat} : (sntL (l.take i)).length ≤ l.length := by
  rw [sntL, List.length_map]
  refine Nat.le_trans (List.length_filter_le _ _) ?_
  rw [List.length_take]; omega
theorem szx {l : List Tx} : ∀ e ∈ txs l, e.length = 2 := fun e he => by obtain ⟨t, _, rfl⟩ := List.mem_map.1 he; rfl
abbrev txL (l : List Tx) : V := .d (.sl 2 (txs l))
theorem rowK_tx {m : Nat} {rows : Go.Vx.Rows} {l : List Tx} {x : Tx} : RowK m rows (.live 2 ((txs l).map (·.map .d) ++ [[.d (.sl 1 (strs x.1)), .d (.sl 1 (ints x.2))]])) (.live 2 ((txs (l ++ [x])).map (·.map .d))) := by
  rw [show txs (l ++ [x]) = txs l ++ [txD x] by simp [txs]]
  exact rowK_snoc (x := txD x) ⟨.same _ rfl, .same _ rfl, trivial⟩
theorem t16 (d : Dv) (ok : okLs d.sl) : CallP Tryd.prog 16 [dvV d] (txL (sntS d)) := by
  have hll := okLs_len ok
  have hr := rchN; have hb := mxB; have h72 := ok.1
  refine go16 ac16 rfl ?_
  simp only [vx, vz, Nat.reduceAdd, Nat.reduceSub, Nat.reduceMul, Nat.reduceLeDiff, Nat.reduceLT, Nat.reduceEqDiff, Nat.reduceBEq, Int.reduceToNat, Int.reduceNeg, Int.reduceEq, Int.reduceNe, Int.reduceLE, Int.reduceLT, reduceCtorEq, ↓reduceIte, ac16]
  refine call_p rfl (t11 d ok) ?_
  simp only [vx, vz, Nat.reduceAdd, Nat.reduceSub, Nat.reduceMul, Nat.reduceLeDiff, Nat.reduceLT, Nat.reduceEqDiff, Nat.reduceBEq, Int.reduceToNat, Int.reduceNeg, Int.reduceEq, Int.reduceNe, Int.reduceLE, Int.reduceLT, reduceCtorEq, ↓reduceIte]
  rw [sntS]
  cases hv : vldD d with
  | false =>
    rw [if_neg (by decide)]
    simp only [vx, vz, Nat.reduceAdd, Nat.reduceSub, Nat.reduceMul, Nat.reduceLeDiff, Nat.reduceLT, Nat.reduceEqDiff, Nat.reduceBEq, Int.reduceToNat, Int.reduceNeg, Int.reduceEq, Int.reduceNe, Int.reduceLE, Int.reduceLT, reduceCtorEq, ↓reduceIte]
    exact .nils 2
  | true =>
    obtain ⟨h1, h2, _, _, _, _⟩ := vld_in hv
    obtain ⟨n, hn⟩ : ∃ n : Nat, d.at_ = n := ⟨d.at_.toNat, by omega⟩
    rw [if_pos rfl, hn, Int.toNat_natCast]
    simp only [vx, vz, Nat.reduceAdd, Nat.reduceSub, Nat.reduceMul, Nat.reduceLeDiff, Nat.reduceLT, Nat.reduceEqDiff, Nat.reduceBEq, Int.reduceToNat, Int.reduceNeg, Int.reduceEq, Int.reduceNe, Int.reduceLE, Int.reduceLT, reduceCtorEq, ↓reduceIte, hn]
    refine ⟨by omega, by omega, ?_⟩
    have hml : (List.take n (List.map Slo.d d.sl)).length = n := by simp; omega
    have htl : (d.sl.take n).length = n := by rw [List.length_take]; omega
    refine loop_st (fun i : Nat => ⟨mkF 30 [(3, .osl 2 1 (sntL (d.sl.take i)).length 0 (sntL (d.sl.take i)).length), (13, slL (d.sl.take n)), (14, .d (.int .i64 n)), (15, .d (.int .i64 i))], [.live 3 [[slL d.sl, .d (.int .i64 n), .d (.int .i64 d.wt)]], .live 2 ((txs (sntL (d.sl.take i))).map (·.map .d))]⟩) (fun i => i ≤ n) (fun i => n - i) 0 (Weak.trans (weak_nils 3 2 rfl) (weak_any (by
      simp only [vx, vz, Nat.reduceAdd, Nat.reduceSub, Nat.reduceMul, Nat.reduceLeDiff, Nat.reduceLT, Nat.reduceEqDiff, Nat.reduceBEq, Int.reduceToNat, Int.reduceNeg, Int.reduceEq, Int.reduceNe, Int.reduceLE, Int.reduceLT, reduceCtorEq, ↓reduceIte, hml, List.map_take]
      try trivial))) (by omega) (fun i hi => ?_)
    have hsl := snt_len (l := d.sl) (i := i)
    simp only [vx, vz, Nat.reduceAdd, Nat.reduceSub, Nat.reduceMul, Nat.reduceLeDiff, Nat.reduceLT, Nat.reduceEqDiff, Nat.reduceBEq, Int.reduceToNat, Int.reduceNeg, Int.reduceEq, Int.reduceNe, Int.reduceLE, Int.reduceLT, reduceCtorEq, ↓reduceIte]
    refine cond_split (fun hc => ?_) (fun hc => ?_)
    · simp only [decide_eq_true_eq] at hc
      obtain ⟨x, hx⟩ := get_ex (l := d.sl) (i := i) (by omega)
      have hx2 : (d.sl.take n)[i]? = some x := by rw [List.getElem?_take, if_pos (by omega)]; exact hx
      have es := snt_snoc hx
      simp only [vx, vz, Nat.reduceAdd, Nat.reduceSub, Nat.reduceMul, Nat.reduceLeDiff, Nat.reduceLT, Nat.reduceEqDiff, Nat.reduceBEq, Int.reduceToNat, Int.reduceNeg, Int.reduceEq, Int.reduceNe, Int.reduceLE, Int.reduceLT, reduceCtorEq, ↓reduceIte, htl]
      refine ⟨by omega, by omega, getM_at hx2 ?_⟩
      simp only [vx, vz, Nat.reduceAdd, Nat.reduceSub, Nat.reduceMul, Nat.reduceLeDiff, Nat.reduceLT, Nat.reduceEqDiff, Nat.reduceBEq, Int.reduceToNat, Int.reduceNeg, Int.reduceEq, Int.reduceNe, Int.reduceLE, Int.reduceLT, reduceCtorEq, ↓reduceIte]
      simp only [vx, vz, Nat.reduceAdd, Nat.reduceSub, Nat.reduceMul, Nat.reduceLeDiff, Nat.reduceLT, Nat.reduceEqDiff, Nat.reduceBEq, Int.reduceToNat, Int.reduceNeg, Int.reduceEq, Int.reduceNe, Int.reduceLE, Int.reduceLT, reduceCtorEq, ↓reduceIte, Slo.d]
      cases hxi : x.idl with
      | true =>
        rw [hxi, if_pos rfl] at es
        simp only [vx, vz, Nat.reduceAdd, Nat.reduceSub, Nat.reduceMul, Nat.reduceLeDiff, Nat.reduceLT, Nat.reduceEqDiff, Nat.reduceBEq, Int.reduceToNat, Int.reduceNeg, Int.reduceEq, Int.reduceNe, Int.reduceLE, Int.reduceLT, reduceCtorEq, ↓reduceIte]
        refine ls_n (i + 1) (by omega) ?_ (by omega)
        simp only [es]
        refine Weak.trans (weak_any ?_) (weak_frz2 2 (by omega) ⟨.same _ ?_, .same _ rowB_data, trivial⟩ (kpL_refl ?_))
        · simp only [vx, vz, Nat.reduceAdd, Nat.reduceSub, Nat.reduceMul, Nat.reduceLeDiff, Nat.reduceLT, Nat.reduceEqDiff, Nat.reduceBEq, Int.reduceToNat, Int.reduceNeg, Int.reduceEq, Int.reduceNe, Int.reduceLE, Int.reduceLT, reduceCtorEq, ↓reduceIte]
          rw [wr_i64 (by omega) (by omega)]
          first | trivial | exact ⟨rfl, rfl⟩
        · intro e he v hv; simp at he; subst he; simp at hv; rcases hv with rfl | rfl | rfl <;> rfl
        · rfl
      | false =>
        rw [hxi, if_neg (by decide)] at es
        simp only [vx, vz, Nat.reduceAdd, Nat.reduceSub, Nat.reduceMul, Nat.reduceLeDiff, Nat.reduceLT, Nat.reduceEqDiff, Nat.reduceBEq, Int.reduceToNat, Int.reduceNeg, Int.reduceEq, Int.reduceNe, Int.reduceLE, Int.reduceLT, reduceCtorEq, ↓reduceIte]
        refine call_p rfl (t32 x.tx (ok.2 x (List.mem_of_getElem? hx))) ?_
        simp only [vx, vz, Nat.reduceAdd, Nat.reduceSub, Nat.reduceMul, Nat.reduceLeDiff, Nat.reduceLT, Nat.reduceEqDiff, Nat.reduceBEq, Int.reduceToNat, Int.reduceNeg, Int.reduceEq, Int.reduceNe, Int.reduceLE, Int.reduceLT, reduceCtorEq, ↓reduceIte]
        refine ⟨by omega, ?_⟩
        refine ls_n (i + 1) (by omega) (Weak.trans (weak_any ?_) (weak_frz2 2 (by omega) ⟨.same _ ?_, ?_, trivial⟩ (kpL_refl ?_))) (by omega)
        · simp only [vx, vz, Nat.reduceAdd, Nat.reduceSub, Nat.reduceMul, Nat.reduceLeDiff, Nat.reduceLT, Nat.reduceEqDiff, Nat.reduceBEq, Int.reduceToNat, Int.reduceNeg, Int.reduceEq, Int.reduceNe, Int.reduceLE, Int.reduceLT, reduceCtorEq, ↓reduceIte]
          rw [wr_i64 (by omega) (by omega), es, List.length_append]
          first | trivial | exact ⟨rfl, rfl⟩
        · intro e he v hv; simp at he; subst he; simp at hv; rcases hv with rfl | rfl | rfl <;> rfl
        · show RowK _ _ _ (.live 2 ((txs (sntL (d.sl.take (i + 1)))).map (·.map .d)))
          rw [es]
          exact rowK_tx
        · rfl
    · simp only [decide_eq_false_iff_not] at hc
      obtain rfl : i = n := by omega
      simp only [vx, vz, Nat.reduceAdd, Nat.reduceSub, Nat.reduceMul, Nat.reduceLeDiff, Nat.reduceLT, Nat.reduceEqDiff, Nat.reduceBEq, Int.reduceToNat, Int.reduceNeg, Int.reduceEq, Int.reduceNe, Int.reduceLE, Int.reduceLT, reduceCtorEq, ↓reduceIte]
      exact sn_all (es := txs (sntL (d.sl.take i))) rfl (by simp) szx
theorem t17 (d : Dv) (ok : okLs d.sl) : CallP Tryd.prog 17 [dvV d] (txL (sntS d)) := by
  have hll := okLs_len ok
  have hr := rchN; have hb := mxB; have h72 := ok.1
  refine go17 ac17 rfl ?_
  simp only [vx, vz, Nat.reduceAdd, Nat.reduceSub, Nat.reduceMul, Nat.reduceLeDiff, Nat.reduceLT, Nat.reduceEqDiff, Nat.reduceBEq, Int.reduceToNat, Int.reduceNeg, Int.reduceEq, Int.reduceNe, Int.reduceLE, Int.reduceLT, reduceCtorEq, ↓reduceIte, ac17]
  refine call_p rfl (t12 d ok) ?_
  simp only [vx, vz, Nat.reduceAdd, Nat.reduceSub, Nat.reduceMul, Nat.reduceLeDiff, Nat.reduceLT, Nat.reduceEqDiff, Nat.reduceBEq, Int.reduceToNat, Int.reduceNeg, Int.reduceEq, Int.reduceNe, Int.reduceLE, Int.reduceLT, reduceCtorEq, ↓reduceIte]
  rw [sntS]
  cases hv : vldD d with
  | false =>
    rw [if_neg (by decide)]
    simp only [vx, vz, Nat.reduceAdd, Nat.reduceSub, Nat.reduceMul, Nat.reduceLeDiff, Nat.reduceLT, Nat.reduceEqDiff, Nat.reduceBEq, Int.reduceToNat, Int.reduceNeg, Int.reduceEq, Int.reduceNe, Int.reduceLE, Int.reduceLT, reduceCtorEq, ↓reduceIte]
    exact .nils 2
  | true =>
    obtain ⟨h1, h2, _, _, _, _⟩ := vld_in hv
    obtain ⟨n, hn⟩ : ∃ n : Nat, d.at_ = n := ⟨d.at_.toNat, by omega⟩
    rw [if_pos rfl, hn, Int.toNat_natCast]
    simp only [vx, vz, Nat.reduceAdd, Nat.reduceSub, Nat.reduceMul, Nat.reduceLeDiff, Nat.reduceLT, Nat.reduceEqDiff, Nat.reduceBEq, Int.reduceToNat, Int.reduceNeg, Int.reduceEq, Int.reduceNe, Int.reduceLE, Int.reduceLT, reduceCtorEq, ↓reduceIte]
    refine loop_st (fun i : Nat => ⟨mkF 31 [(1, .optr 3 0 1 0 0), (3, .osl 2 1 (sntL (d.sl.take i)).length 0 (sntL (d.sl.take i)).length), (4, .d (.int .i64 i))], [.live 3 [[slL d.sl, .d (.int .i64 n), .d (.int .i64 d.wt)]], .live 2 ((txs (sntL (d.sl.take i))).map (·.map .d))]⟩) (fun i => i ≤ n) (fun i => n - i) 0 (by rw [← hn]; exact Weak.trans (weak_nils 3 2 rfl) (weak_any (by simp only [vx, vz, Nat.reduceAdd, Nat.reduceSub, Nat.reduceMul, Nat.reduceLeDiff, Nat.reduceLT, Nat.reduceEqDiff, Nat.reduceBEq, Int.reduceToNat, Int.reduceNeg, Int.reduceEq, Int.reduceNe, Int.reduceLE, Int.reduceLT, reduceCtorEq, ↓reduceIte]; try trivial))) (by omega) (fun i hi => ?_)
    have hsl := snt_len (l := d.sl) (i := i)
    simp only [vx, vz, Nat.reduceAdd, Nat.reduceSub, Nat.reduceMul, Nat.reduceLeDiff, Nat.reduceLT, Nat.reduceEqDiff, Nat.reduceBEq, Int.reduceToNat, Int.reduceNeg, Int.reduceEq, Int.reduceNe, Int.reduceLE, Int.reduceLT, reduceCtorEq, ↓reduceIte]
    refine cond_split (fun hc => ?_) (fun hc => ?_)
    · simp only [decide_eq_true_eq] at hc
      obtain ⟨x, hx⟩ := get_ex (l := d.sl) (i := i) (by omega)
      have es := snt_snoc hx
      simp only [vx, vz, Nat.reduceAdd, Nat.reduceSub, Nat.reduceMul, Nat.reduceLeDiff, Nat.reduceLT, Nat.reduceEqDiff, Nat.reduceBEq, Int.reduceToNat, Int.reduceNeg, Int.reduceEq, Int.reduceNe, Int.reduceLE, Int.reduceLT, reduceCtorEq, ↓reduceIte]
      refine ⟨by omega, by omega, getM_at hx ?_⟩
      simp only [vx, vz, Nat.reduceAdd, Nat.reduceSub, Nat.reduceMul, Nat.reduceLeDiff, Nat.reduceLT, Nat.reduceEqDiff, Nat.reduceBEq, Int.reduceToNat, Int.reduceNeg, Int.reduceEq, Int.reduceNe, Int.reduceLE, Int.reduceLT, reduceCtorEq, ↓reduceIte]
      simp only [vx, vz, Nat.reduceAdd, Nat.reduceSub, Nat.reduceMul, Nat.reduceLeDiff, Nat.reduceLT, Nat.reduceEqDiff, Nat.reduceBEq, Int.reduceToNat, Int.reduceNeg, Int.reduceEq, Int.reduceNe, Int.reduceLE, Int.reduceLT, reduceCtorEq, ↓reduceIte, Slo.d]
      cases hxi : x.idl with
      | true =>
        rw [hxi, if_pos rfl] at es
        simp only [vx, vz, Nat.reduceAdd, Nat.reduceSub, Nat.reduceMul, Nat.reduceLeDiff, Nat.reduceLT, Nat.reduceEqDiff, Nat.reduceBEq, Int.reduceToNat, Int.reduceNeg, Int.reduceEq, Int.reduceNe, Int.reduceLE, Int.reduceLT, reduceCtorEq, ↓reduceIte]
        refine ls_n (i + 1) (by omega) ?_ (by omega)
        simp only [es]
        refine weak_any ?_
        simp only [vx, vz, Nat.reduceAdd, Nat.reduceSub, Nat.reduceMul, Nat.reduceLeDiff, Nat.reduceLT, Nat.reduceEqDiff, Nat.reduceBEq, Int.reduceToNat, Int.reduceNeg, Int.reduceEq, Int.reduceNe, Int.reduceLE, Int.reduceLT, reduceCtorEq, ↓reduceIte]
        rw [wr_i64 (by omega) (by omega)]
        first | trivial | exact ⟨rfl, rfl⟩
      | false =>
        rw [hxi, if_neg (by decide)] at es
        simp only [vx, vz, Nat.reduceAdd, Nat.reduceSub, Nat.reduceMul, Nat.reduceLeDiff, Nat.reduceLT, Nat.reduceEqDiff, Nat.reduceBEq, Int.reduceToNat, Int.reduceNeg, Int.reduceEq, Int.reduceNe, Int.reduceLE, Int.reduceLT, reduceCtorEq, ↓reduceIte]
        refine ⟨by omega, by omega, getM_at hx ?_⟩
        simp only [vx, vz, Nat.reduceAdd, Nat.reduceSub, Nat.reduceMul, Nat.reduceLeDiff, Nat.reduceLT, Nat.reduceEqDiff, Nat.reduceBEq, Int.reduceToNat, Int.reduceNeg, Int.reduceEq, Int.reduceNe, Int.reduceLE, Int.reduceLT, reduceCtorEq, ↓reduceIte]
        simp only [vx, vz, Nat.reduceAdd, Nat.reduceSub, Nat.reduceMul, Nat.reduceLeDiff, Nat.reduceLT, Nat.reduceEqDiff, Nat.reduceBEq, Int.reduceToNat, Int.reduceNeg, Int.reduceEq, Int.reduceNe, Int.reduceLE, Int.reduceLT, reduceCtorEq, ↓reduceIte, Slo.d]
        refine ⟨by omega, ?_⟩
        refine ls_n (i + 1) (by omega) (Weak.trans (weak_any ?_) (weak_frz2 2 (by omega) ⟨.same _ ?_, ?_, trivial⟩ (kpL_refl ?_))) (by omega)
        · simp only [vx, vz, Nat.reduceAdd, Nat.reduceSub, Nat.reduceMul, Nat.reduceLeDiff, Nat.reduceLT, Nat.reduceEqDiff, Nat.reduceBEq, Int.reduceToNat, Int.reduceNeg, Int.reduceEq, Int.reduceNe, Int.reduceLE, Int.reduceLT, reduceCtorEq, ↓reduceIte]
          rw [wr_i64 (by omega) (by omega), es, List.length_append]
          first | trivial | exact ⟨rfl, rfl⟩
        · intro e he v hv; simp at he; subst he; simp at hv; rcases hv with rfl | rfl | rfl <;> rfl
        · show RowK _ _ _ (.live 2 ((txs (sntL (d.sl.take (i + 1)))).map (·.map .d)))
          rw [es]
          exact rowK_tx
        · rfl
    · simp only [decide_eq_false_iff_not] at hc
      obtain rfl : i = n := by omega
      simp only [vx, vz, Nat.reduceAdd, Nat.reduceSub, Nat.reduceMul, Nat.reduceLeDiff, Nat.reduceLT, Nat.reduceEqDiff, Nat.reduceBEq, Int.reduceToNat, Int.reduceNeg, Int.reduceEq, Int.reduceNe, Int.reduceLE, Int.reduceLT, reduceCtorEq, ↓reduceIte]
      exact sn_all (es := txs (sntL (d.sl.take i))) rfl (by simp) szx
end Go.Proofs.Dr
