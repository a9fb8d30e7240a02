import Derived.Test.YtkbjfoodikoppaaDoorW3
import Derived.Test.YtkbjfoodikoppaaDoorVxRng
set_option linter.unusedSectionVars false
set_option linter.unusedSimpArgs false
set_option linter.unusedVariables false
namespace Go.Proofs.Mn
open Go.Vx
theorem t28 (w : Wv) (c : Chn) : CallP Tryd.prog 28 [vwV w c] (.fn (.func 47) [] [.d (.ptr (vwD w c))]) := by
  refine go28 ac28 rfl ?_
  simp only [vx, vz, Nat.reduceAdd, Nat.reduceSub, Nat.reduceMul, Nat.reduceLeDiff, Nat.reduceLT, Nat.reduceEqDiff, Nat.reduceBEq, Int.reduceToNat, Int.reduceNeg, Int.reduceEq, Int.reduceNe, Int.reduceLE, Int.reduceLT, reduceCtorEq, ↓reduceIte, ac28]
  refine .fn _ _ _ _ _ rfl rfl (by simp) (fun j v v' h1 h2 => ?_)
  cases j with
  | succ j => simp at h1
  | zero =>
    simp at h1 h2
    subst h1 h2
    exact sn_ptr (cs := vwD w c) rfl (by simp [vwD])
/-- the cycles of the transfers -/
def trsN (w : Wv) (c : Chn) (n : Nat) : List Nat := (List.range n).filter fun t => movS w c t
theorem trs_t {w : Wv} {c : Chn} {n : Nat} (h : movS w c n = true) : trsN w c (n + 1) = trsN w c n ++ [n] := by
  rw [trsN, List.range_succ, List.filter_append, trsN]; simp [h]
theorem trs_f {w : Wv} {c : Chn} {n : Nat} (h : movS w c n = false) : trsN w c (n + 1) = trsN w c n := by
  rw [trsN, List.range_succ, List.filter_append, trsN]; simp [h]
theorem weak_any' {b0 : Nat} {fr fr' : List V} {rows rows' : Go.Vx.Rows} (e : rows' = rows) (h : wkA fr fr') : Weak b0 ⟨fr, rows⟩ ⟨fr', rows'⟩ := by
  subst e; exact weak_any h
/-- the enumeration of the transfers, for whatever a round does to the rows of its caller -/
theorem y47 [CtxPred] (w : Wv) (c : Chn) (okc : okC c) (hv : vldW w = true) (hk : knwS w c = true) (hrl : w.rs.length ≤ maxLen) (l : Nat) (R : Nat → Go.Vx.Rows)
    (hn : ∀ t, movS w c (t : Nat) = false → R (t + 1) = R t)
    (hy : ∀ t : Nat, t < w.rs.length → movS w c t = true → ∃ ups, YldX Tryd.prog l [.d (.int .i64 t), .agg [.d (.sl 1 (strs c.fs)), .d (.sl 1 (ints (flds w c t)))]] (R t) (.d (.bool true)) ups ∧ setRows (R t) ups = R (t + 1)) :
    InlP Tryd.prog 47 [.fn (.yield l) [] [], .d (.ptr (vwD w c))] (R 0) (fun _ rows => rows = R w.rs.length) := by
  have hm := hm; have hL := mL; have hl := okc.fl
  refine gi47 ac47 rfl ?_
  simp only [vx, vz, Nat.reduceAdd, Nat.reduceSub, Nat.reduceMul, Nat.reduceLeDiff, Nat.reduceLT, Nat.reduceEqDiff, Nat.reduceBEq, Int.reduceToNat, Int.reduceNeg, Int.reduceEq, Int.reduceNe, Int.reduceLE, Int.reduceLT, reduceCtorEq, ↓reduceIte, ac47, vwD]
  refine loop_st (fun i : Nat => ⟨mkF 33 [(0, .fn (.yield l) [] []), (1, .d (.ptr (vwD w c))), (6, .d (.int .i64 w.rs.length)), (7, .d (.int .i64 i))], R i⟩) (fun i => i ≤ w.rs.length) (fun i => w.rs.length - i) 0 (weak_any (by simp only [vx, vz, Nat.reduceAdd, Nat.reduceSub, Nat.reduceMul, Nat.reduceLeDiff, Nat.reduceLT, Nat.reduceEqDiff, Nat.reduceBEq, Int.reduceToNat, Int.reduceNeg, Int.reduceEq, Int.reduceNe, Int.reduceLE, Int.reduceLT, reduceCtorEq, ↓reduceIte, vwD]; try trivial)) (by omega) (fun i hi => ?_)
  simp only [vx, vz, Nat.reduceAdd, Nat.reduceSub, Nat.reduceMul, Nat.reduceLeDiff, Nat.reduceLT, Nat.reduceEqDiff, Nat.reduceBEq, Int.reduceToNat, Int.reduceNeg, Int.reduceEq, Int.reduceNe, Int.reduceLE, Int.reduceLT, reduceCtorEq, ↓reduceIte]
  refine cond_split (fun hc => ?_) (fun hc => ?_)
  · simp only [decide_eq_true_eq] at hc
    have hi' : i < w.rs.length := by omega
    simp only [vx, vz, Nat.reduceAdd, Nat.reduceSub, Nat.reduceMul, Nat.reduceLeDiff, Nat.reduceLT, Nat.reduceEqDiff, Nat.reduceBEq, Int.reduceToNat, Int.reduceNeg, Int.reduceEq, Int.reduceNe, Int.reduceLE, Int.reduceLT, reduceCtorEq, ↓reduceIte, vwD]
    refine call_p rfl (t48 w c i hv hk hi') ?_
    simp only [vx, vz, Nat.reduceAdd, Nat.reduceSub, Nat.reduceMul, Nat.reduceLeDiff, Nat.reduceLT, Nat.reduceEqDiff, Nat.reduceBEq, Int.reduceToNat, Int.reduceNeg, Int.reduceEq, Int.reduceNe, Int.reduceLE, Int.reduceLT, reduceCtorEq, ↓reduceIte]
    cases hva : decide (valS w c.va i = 0) with
    | true =>
      have hmv : movS w c i = false := by unfold movS; rw [hva]; rfl
      simp only [vx, vz, Nat.reduceAdd, Nat.reduceSub, Nat.reduceMul, Nat.reduceLeDiff, Nat.reduceLT, Nat.reduceEqDiff, Nat.reduceBEq, Int.reduceToNat, Int.reduceNeg, Int.reduceEq, Int.reduceNe, Int.reduceLE, Int.reduceLT, reduceCtorEq, ↓reduceIte, Bool.not_true, Bool.not_false]
      refine ls_n (i + 1) (by omega) (weak_any' (hn i hmv) ?_) (by omega)
      simp only [vx, vz, Nat.reduceAdd, Nat.reduceSub, Nat.reduceMul, Nat.reduceLeDiff, Nat.reduceLT, Nat.reduceEqDiff, Nat.reduceBEq, Int.reduceToNat, Int.reduceNeg, Int.reduceEq, Int.reduceNe, Int.reduceLE, Int.reduceLT, reduceCtorEq, ↓reduceIte, vwD]
      rw [wr_i64 (by omega) (by omega)]
      rfl
    | false =>
      simp only [vx, vz, Nat.reduceAdd, Nat.reduceSub, Nat.reduceMul, Nat.reduceLeDiff, Nat.reduceLT, Nat.reduceEqDiff, Nat.reduceBEq, Int.reduceToNat, Int.reduceNeg, Int.reduceEq, Int.reduceNe, Int.reduceLE, Int.reduceLT, reduceCtorEq, ↓reduceIte, Bool.not_true, Bool.not_false]
      refine call_p rfl (t49 w c i hv hk hi') ?_
      simp only [vx, vz, Nat.reduceAdd, Nat.reduceSub, Nat.reduceMul, Nat.reduceLeDiff, Nat.reduceLT, Nat.reduceEqDiff, Nat.reduceBEq, Int.reduceToNat, Int.reduceNeg, Int.reduceEq, Int.reduceNe, Int.reduceLE, Int.reduceLT, reduceCtorEq, ↓reduceIte]
      cases hrd : decide (valS w c.rd i = 0) with
      | true =>
        have hmv : movS w c i = false := by unfold movS; rw [hva, hrd]; rfl
        simp only [vx, vz, Nat.reduceAdd, Nat.reduceSub, Nat.reduceMul, Nat.reduceLeDiff, Nat.reduceLT, Nat.reduceEqDiff, Nat.reduceBEq, Int.reduceToNat, Int.reduceNeg, Int.reduceEq, Int.reduceNe, Int.reduceLE, Int.reduceLT, reduceCtorEq, ↓reduceIte, Bool.not_true, Bool.not_false]
        refine ls_n (i + 1) (by omega) (weak_any' (hn i hmv) ?_) (by omega)
        simp only [vx, vz, Nat.reduceAdd, Nat.reduceSub, Nat.reduceMul, Nat.reduceLeDiff, Nat.reduceLT, Nat.reduceEqDiff, Nat.reduceBEq, Int.reduceToNat, Int.reduceNeg, Int.reduceEq, Int.reduceNe, Int.reduceLE, Int.reduceLT, reduceCtorEq, ↓reduceIte, vwD]
        rw [wr_i64 (by omega) (by omega)]
        rfl
      | false =>
        have hmv : movS w c i = true := by unfold movS; rw [hva, hrd]; rfl
        obtain ⟨ups, hy1, hy2⟩ := hy i hi' hmv
        simp only [vx, vz, Nat.reduceAdd, Nat.reduceSub, Nat.reduceMul, Nat.reduceLeDiff, Nat.reduceLT, Nat.reduceEqDiff, Nat.reduceBEq, Int.reduceToNat, Int.reduceNeg, Int.reduceEq, Int.reduceNe, Int.reduceLE, Int.reduceLT, reduceCtorEq, ↓reduceIte, Bool.not_true, Bool.not_false]
        refine c_draw ?_
        simp only [vx, vz, Nat.reduceAdd, Nat.reduceSub, Nat.reduceMul, Nat.reduceLeDiff, Nat.reduceLT, Nat.reduceEqDiff, Nat.reduceBEq, Int.reduceToNat, Int.reduceNeg, Int.reduceEq, Int.reduceNe, Int.reduceLE, Int.reduceLT, reduceCtorEq, ↓reduceIte]
        repeat (refine d_k rfl rfl ?_; simp only [vx, vz, Nat.reduceAdd, Nat.reduceSub, Nat.reduceMul, Nat.reduceLeDiff, Nat.reduceLT, Nat.reduceEqDiff, Nat.reduceBEq, Int.reduceToNat, Int.reduceNeg, Int.reduceEq, Int.reduceNe, Int.reduceLE, Int.reduceLT, reduceCtorEq, ↓reduceIte])
        refine call_p rfl (t42 c.fs (by omega)) ?_
        repeat (refine d_k rfl rfl ?_; simp only [vx, vz, Nat.reduceAdd, Nat.reduceSub, Nat.reduceMul, Nat.reduceLeDiff, Nat.reduceLT, Nat.reduceEqDiff, Nat.reduceBEq, Int.reduceToNat, Int.reduceNeg, Int.reduceEq, Int.reduceNe, Int.reduceLE, Int.reduceLT, reduceCtorEq, ↓reduceIte])
        refine call_p rfl (t50 w c i okc hv hk hi') ?_
        repeat (refine d_k rfl rfl ?_; simp only [vx, vz, Nat.reduceAdd, Nat.reduceSub, Nat.reduceMul, Nat.reduceLeDiff, Nat.reduceLT, Nat.reduceEqDiff, Nat.reduceBEq, Int.reduceToNat, Int.reduceNeg, Int.reduceEq, Int.reduceNe, Int.reduceLE, Int.reduceLT, reduceCtorEq, ↓reduceIte])
        refine call_y hy1 (d_k rfl (yld_all hy1) ?_)
        rw [hy2]
        simp only [vx, vz, Nat.reduceAdd, Nat.reduceSub, Nat.reduceMul, Nat.reduceLeDiff, Nat.reduceLT, Nat.reduceEqDiff, Nat.reduceBEq, Int.reduceToNat, Int.reduceNeg, Int.reduceEq, Int.reduceNe, Int.reduceLE, Int.reduceLT, reduceCtorEq, ↓reduceIte]
        repeat (refine d_k rfl rfl ?_; simp only [vx, vz, Nat.reduceAdd, Nat.reduceSub, Nat.reduceMul, Nat.reduceLeDiff, Nat.reduceLT, Nat.reduceEqDiff, Nat.reduceBEq, Int.reduceToNat, Int.reduceNeg, Int.reduceEq, Int.reduceNe, Int.reduceLE, Int.reduceLT, reduceCtorEq, ↓reduceIte])
        refine ls_n (i + 1) (by omega) (weak_any ?_) (by omega)
        simp only [vx, vz, Nat.reduceAdd, Nat.reduceSub, Nat.reduceMul, Nat.reduceLeDiff, Nat.reduceLT, Nat.reduceEqDiff, Nat.reduceBEq, Int.reduceToNat, Int.reduceNeg, Int.reduceEq, Int.reduceNe, Int.reduceLE, Int.reduceLT, reduceCtorEq, ↓reduceIte, vwD]
        rw [wr_i64 (by omega) (by omega)]
        rfl
  · simp only [decide_eq_false_iff_not] at hc
    obtain rfl : i = w.rs.length := by omega
    simp only [vx, vz, Nat.reduceAdd, Nat.reduceSub, Nat.reduceMul, Nat.reduceLeDiff, Nat.reduceLT, Nat.reduceEqDiff, Nat.reduceBEq, Int.reduceToNat, Int.reduceNeg, Int.reduceEq, Int.reduceNe, Int.reduceLE, Int.reduceLT, reduceCtorEq, ↓reduceIte]
    exact rfl
def zs (l : List Nat) : List Int := l.map fun t : Nat => (t : Int)
theorem zs_len (l : List Nat) : (zs l).length = l.length := by rw [zs, List.length_map]
theorem zs_snoc (l : List Nat) (t : Nat) : zs (l ++ [t]) = zs l ++ [(t : Int)] := by simp [zs]
def cycS (w : Wv) (c : Chn) : List Int := zs (trsN w c w.rs.length)
theorem trs_len (w : Wv) (c : Chn) (n : Nat) : (trsN w c n).length ≤ n := by
  have := List.length_filter_le (fun t : Nat => movS w c t) (List.range n)
  rw [List.length_range] at this
  exact this
theorem rowB_osl {m sz h n k : Nat} (hh : h < m) : rowB m (.live 1 [[.osl sz h n 0 k]]) := by
  intro e he v hv; simp at he; subst he; simp at hv; subst hv; simp [hB, hh]
/-- the rows of cycles, after some cycles -/
def R30 (w : Wv) (c : Chn) (l : Nat) (L : Loop) (t : Nat) : Go.Vx.Rows :=
  [rV w c, .live 1 [[.osl 1 2 (trsN w c t).length 0 (trsN w c t).length]], rowInts (zs (trsN w c t)), .obj (.loop l L)]
theorem t30 (w : Wv) (c : Chn) (okc : okC c) (hv : vldW w = true) (hk : knwS w c = true) (hrl : w.rs.length ≤ maxLen) : CallP Tryd.prog 30 [vwV w c] (.d (.sl 1 (ints (cycS w c)))) := by
  have hb := mxB; have hm := hm; have hL := mL; have hl := okc.fl
  obtain ⟨k1, k2, k3, k4⟩ := vldW_in hv
  refine go30 (AC.at (fun a => .wk a) [1, 1, 0, 1, 2] ac30) rfl ?_
  simp only [vx, vz, Nat.reduceAdd, Nat.reduceSub, Nat.reduceMul, Nat.reduceLeDiff, Nat.reduceLT, Nat.reduceEqDiff, Nat.reduceBEq, Int.reduceToNat, Int.reduceNeg, Int.reduceEq, Int.reduceNe, Int.reduceLE, Int.reduceLT, reduceCtorEq, ↓reduceIte, ac30, AC.at]
  refine call_p rfl (t28 w c) ?_
  simp only [vx, vz, Nat.reduceAdd, Nat.reduceSub, Nat.reduceMul, Nat.reduceLeDiff, Nat.reduceLT, Nat.reduceEqDiff, Nat.reduceBEq, Int.reduceToNat, Int.reduceNeg, Int.reduceEq, Int.reduceNe, Int.reduceLE, Int.reduceLT, reduceCtorEq, ↓reduceIte]
  refine wk_in _ (weak_nilsR 1 1 rfl) ?_
  refine ⟨rfl, 47, [.d (.ptr (vwD w c))], fun l L _ rows => rows = R30 w c l L w.rs.length, rfl, fun l L cp hst hpd hy => ?_, fun l L v rows hK => ?_⟩
  · refine y47 w c okc hv hk hrl l (R30 w c l L) (fun t ht => by unfold R30; rw [trs_f ht]) (fun t ht hmv => ?_)
    have hlt := trs_len w c t
    refine ⟨[(1, .live 1 [[.osl 1 2 ((trsN w c t).length + 1) 0 ((trsN w c t).length + 1)]]), (2, rowInts (zs (trsN w c (t + 1))))], hy _ _ _ ⟨rfl, rfl, by simp [R30], by simp, ?_⟩, ?_⟩
    · simp only [R30]
      simp only [vx, vz, Nat.reduceAdd, Nat.reduceSub, Nat.reduceMul, Nat.reduceLeDiff, Nat.reduceLT, Nat.reduceEqDiff, Nat.reduceBEq, Int.reduceToNat, Int.reduceNeg, Int.reduceEq, Int.reduceNe, Int.reduceLE, Int.reduceLT, reduceCtorEq, ↓reduceIte, putPs]
      refine ⟨rfl, zs_len _, by omega, rfl, ⟨mkF 14 [], [rV w c, .live 1 [[.osl 1 2 ((trsN w c t).length + 1) 0 ((trsN w c t).length + 1)]], rowInts (zs (trsN w c (t + 1))), .obj (.loop l L)]⟩, Weak.trans (weak_any ?_) (weak_frz2 4 (Nat.le_refl 4) ⟨.same _ (rowB_rV w c), .same _ (rowB_osl (by decide)), ?_, .same _ rowB_obj, trivial⟩ (kpL_refl rfl)), rfl⟩
      · simp only [vx, vz, Nat.reduceAdd, Nat.reduceSub, Nat.reduceMul, Nat.reduceLeDiff, Nat.reduceLT, Nat.reduceEqDiff, Nat.reduceBEq, Int.reduceToNat, Int.reduceNeg, Int.reduceEq, Int.reduceNe, Int.reduceLE, Int.reduceLT, reduceCtorEq, ↓reduceIte]
      · rw [trs_t hmv, zs_snoc]
        exact rowK_int
    · rw [trs_t hmv]
      simp only [R30, setRows, trs_t hmv, List.length_append]
      rfl
  · subst hK
    refine ⟨rfl, ?_⟩
    simp only [R30]
    simp only [vx, vz, Nat.reduceAdd, Nat.reduceSub, Nat.reduceMul, Nat.reduceLeDiff, Nat.reduceLT, Nat.reduceEqDiff, Nat.reduceBEq, Int.reduceToNat, Int.reduceNeg, Int.reduceEq, Int.reduceNe, Int.reduceLE, Int.reduceLT, reduceCtorEq, ↓reduceIte]
    exact sn_all (es := ints (cycS w c)) rfl (by rw [List.length_map, cycS, zs_len]) szi
end Go.Proofs.Mn

namespace Go.Proofs.Mn
open Go.Vx
def errS (w : Wv) (l : List Chn) : Int := if (l.any (fun c => !vldC c) || !vldW w) = true then 1 else if l.all (knwS w) = true then 0 else 7
theorem opn_ok {w : Wv} {l : List Chn} (h : errS w l = 0) : opnS w l = .tup [.d (.sl 7 (l.map (vwD w))), .d (.int .i64 0)] ∧ vldW w = true ∧ ∀ c ∈ l, knwS w c = true := by
  unfold errS at h
  unfold opnS
  split at h
  · cases h
  · rename_i h1
    rw [if_neg h1]
    split at h
    · rename_i h2
      rw [if_pos h2]
      refine ⟨rfl, ?_, fun c hc => List.all_eq_true.1 h2 c hc⟩
      cases hv : vldW w with
      | true => rfl
      | false => rw [hv] at h1; simp at h1
    · cases h
theorem opn_no {w : Wv} {l : List Chn} (h : ¬ errS w l = 0) : opnS w l = .tup [.d .nils, .d (.int .i64 (errS w l))] := by
  unfold errS at h ⊢
  unfold opnS
  split
  · rfl
  · rename_i h1
    rw [if_neg h1] at h
    split
    · rename_i h2
      rw [if_pos h2] at h
      exact absurd rfl h
    · rfl
abbrev cycV (w : Wv) (c : Chn) : V := .tup [.d (.sl 1 (ints (if errS w [c] = 0 then cycS w c else []))), .d (.int .i64 (errS w [c]))]
theorem t13 (w : Wv) (c : Chn) (okw : okW w) (okc : okC c) : CallP Tryd.prog 13 [wvV w, chV c] (cycV w c) := by
  have hb := mxB
  refine go13 ac13 rfl ?_
  simp only [vx, vz, Nat.reduceAdd, Nat.reduceSub, Nat.reduceMul, Nat.reduceLeDiff, Nat.reduceLT, Nat.reduceEqDiff, Nat.reduceBEq, Int.reduceToNat, Int.reduceNeg, Int.reduceEq, Int.reduceNe, Int.reduceLE, Int.reduceLT, reduceCtorEq, ↓reduceIte, ac13]
  refine call_k (v := opnS w [c]) (by simp [snapOk, snapCOk, Go.Vx.rowAt, isD, noH, noH1, noH2]) (by simpa [snapV, snapC, toD, Chn.d] using t27 w [c] okw (by simp) (by simpa using okc)) ?_
  by_cases he : errS w [c] = 0
  · obtain ⟨h1, h2, h3⟩ := opn_ok he
    rw [h1, show cycV w c = .tup [.d (.sl 1 (ints (cycS w c))), .d (.int .i64 0)] by unfold cycV; rw [if_pos he, he]]
    simp only [vx, vz, Nat.reduceAdd, Nat.reduceSub, Nat.reduceMul, Nat.reduceLeDiff, Nat.reduceLT, Nat.reduceEqDiff, Nat.reduceBEq, Int.reduceToNat, Int.reduceNeg, Int.reduceEq, Int.reduceNe, Int.reduceLE, Int.reduceLT, reduceCtorEq, ↓reduceIte, kills, List.flatMap_cons, List.flatMap_nil, hAll, hOf1, List.map, setRows]
    refine ⟨Nat.le_refl 7, ?_⟩
    simp only [vx, vz, Nat.reduceAdd, Nat.reduceSub, Nat.reduceMul, Nat.reduceLeDiff, Nat.reduceLT, Nat.reduceEqDiff, Nat.reduceBEq, Int.reduceToNat, Int.reduceNeg, Int.reduceEq, Int.reduceNe, Int.reduceLE, Int.reduceLT, reduceCtorEq, ↓reduceIte, vwD]
    refine call_p rfl (t30 w c okc h2 (h3 c (by simp)) okw.rl) ?_
    simp only [vx, vz, Nat.reduceAdd, Nat.reduceSub, Nat.reduceMul, Nat.reduceLeDiff, Nat.reduceLT, Nat.reduceEqDiff, Nat.reduceBEq, Int.reduceToNat, Int.reduceNeg, Int.reduceEq, Int.reduceNe, Int.reduceLE, Int.reduceLT, reduceCtorEq, ↓reduceIte]
    exact .d _
  · rw [opn_no he, show cycV w c = .tup [.d (.sl 1 []), .d (.int .i64 (errS w [c]))] by unfold cycV; rw [if_neg he]; rfl]
    simp only [vx, vz, Nat.reduceAdd, Nat.reduceSub, Nat.reduceMul, Nat.reduceLeDiff, Nat.reduceLT, Nat.reduceEqDiff, Nat.reduceBEq, Int.reduceToNat, Int.reduceNeg, Int.reduceEq, Int.reduceNe, Int.reduceLE, Int.reduceLT, reduceCtorEq, ↓reduceIte, kills, List.flatMap_cons, List.flatMap_nil, hAll, hOf1, List.map, setRows, dt he]
/-- the transactions of the transfers -/
def trfS (w : Wv) (c : Chn) (n : Nat) : List Tx := (trsN w c n).map fun t : Nat => (c.fs, flds w c t)
abbrev trfV (w : Wv) (c : Chn) : V := .tup [.d (.sl 2 (txs (if errS w [c] = 0 then trfS w c w.rs.length else []))), .d (.int .i64 (errS w [c]))]
abbrev rowTx (l : List Tx) : RowS := .live 2 ((txs l).map (·.map .d))
theorem rowK_tx {m : Nat} {rows : Go.Vx.Rows} {l : List Tx} {x : Tx} : RowK m rows (.live 2 ((txs l).map (·.map .d) ++ [[.d (.sl 1 (strs x.1)), .d (.sl 1 (ints x.2))]])) (rowTx (l ++ [x])) := by
  rw [show rowTx (l ++ [x]) = .live 2 ((txs l ++ [txD x]).map (·.map .d)) by simp [txs]]
  exact rowK_snoc (x := txD x) ⟨.same _ rfl, .same _ rfl, trivial⟩
theorem szt {l : List Tx} : ∀ e ∈ txs l, e.length = 2 := fun e he => by obtain ⟨s, _, rfl⟩ := List.mem_map.1 he; rfl
theorem trf_t {w : Wv} {c : Chn} {n : Nat} (h : movS w c n = true) : trfS w c (n + 1) = trfS w c n ++ [(c.fs, flds w c n)] := by
  rw [trfS, trs_t h, List.map_append]; rfl
theorem trf_len (w : Wv) (c : Chn) (n : Nat) : (trfS w c n).length ≤ n := by
  rw [trfS, List.length_map]; exact trs_len w c n
/-- the rows of Transfers, after some cycles -/
def R11 (w : Wv) (c : Chn) (l : Nat) (L : Loop) (t : Nat) : Go.Vx.Rows :=
  [rW w, rC c, .dead, .live 1 [[.osl 2 4 (trfS w c t).length 0 (trfS w c t).length]], rowTx (trfS w c t), .obj (.loop l L)]
theorem t11 (w : Wv) (c : Chn) (okw : okW w) (okc : okC c) : CallP Tryd.prog 11 [wvV w, chV c] (trfV w c) := by
  have hb := mxB; have hm := hm; have hL := mL; have hl := okc.fl
  refine go11 (AC.at (fun a => .wk a) [1, 1, 1, 1, 0, 1, 2] ac11) rfl ?_
  simp only [vx, vz, Nat.reduceAdd, Nat.reduceSub, Nat.reduceMul, Nat.reduceLeDiff, Nat.reduceLT, Nat.reduceEqDiff, Nat.reduceBEq, Int.reduceToNat, Int.reduceNeg, Int.reduceEq, Int.reduceNe, Int.reduceLE, Int.reduceLT, reduceCtorEq, ↓reduceIte, ac11, AC.at]
  refine call_k (v := opnS w [c]) (by simp [snapOk, snapCOk, Go.Vx.rowAt, isD, noH, noH1, noH2]) (by simpa [snapV, snapC, toD, Chn.d] using t27 w [c] okw (by simp) (by simpa using okc)) ?_
  by_cases he : errS w [c] = 0
  · obtain ⟨h1, hv, h3⟩ := opn_ok he
    have hk := h3 c (by simp)
    obtain ⟨k1, k2, k3, k4⟩ := vldW_in hv
    rw [h1, show trfV w c = .tup [.d (.sl 2 (txs (trfS w c w.rs.length))), .d (.int .i64 0)] by unfold trfV; rw [if_pos he, he]]
    simp only [vx, vz, Nat.reduceAdd, Nat.reduceSub, Nat.reduceMul, Nat.reduceLeDiff, Nat.reduceLT, Nat.reduceEqDiff, Nat.reduceBEq, Int.reduceToNat, Int.reduceNeg, Int.reduceEq, Int.reduceNe, Int.reduceLE, Int.reduceLT, reduceCtorEq, ↓reduceIte, kills, List.flatMap_cons, List.flatMap_nil, hAll, hOf1, List.map, setRows]
    refine ⟨Nat.le_refl 7, ?_⟩
    simp only [vx, vz, Nat.reduceAdd, Nat.reduceSub, Nat.reduceMul, Nat.reduceLeDiff, Nat.reduceLT, Nat.reduceEqDiff, Nat.reduceBEq, Int.reduceToNat, Int.reduceNeg, Int.reduceEq, Int.reduceNe, Int.reduceLE, Int.reduceLT, reduceCtorEq, ↓reduceIte, vwD]
    refine call_p rfl (t28 w c) ?_
    simp only [vx, vz, Nat.reduceAdd, Nat.reduceSub, Nat.reduceMul, Nat.reduceLeDiff, Nat.reduceLT, Nat.reduceEqDiff, Nat.reduceBEq, Int.reduceToNat, Int.reduceNeg, Int.reduceEq, Int.reduceNe, Int.reduceLE, Int.reduceLT, reduceCtorEq, ↓reduceIte]
    refine wk_in _ (weak_nilsR 3 2 rfl) ?_
    refine ⟨rfl, 47, [.d (.ptr (vwD w c))], fun l L _ rows => rows = R11 w c l L w.rs.length, rfl, fun l L cp hst hpd hy => ?_, fun l L v rows hK => ?_⟩
    · refine y47 w c okc hv hk okw.rl l (R11 w c l L) (fun t ht => by unfold R11 trfS; rw [trs_f ht]) (fun t ht hmv => ?_)
      have hlt := trf_len w c t
      refine ⟨[(3, .live 1 [[.osl 2 4 ((trfS w c t).length + 1) 0 ((trfS w c t).length + 1)]]), (4, rowTx (trfS w c (t + 1)))], hy _ _ _ ⟨rfl, rfl, by simp [R11], by simp, ?_⟩, ?_⟩
      · simp only [R11]
        simp only [vx, vz, Nat.reduceAdd, Nat.reduceSub, Nat.reduceMul, Nat.reduceLeDiff, Nat.reduceLT, Nat.reduceEqDiff, Nat.reduceBEq, Int.reduceToNat, Int.reduceNeg, Int.reduceEq, Int.reduceNe, Int.reduceLE, Int.reduceLT, reduceCtorEq, ↓reduceIte, putPs]
        refine ⟨rfl, by omega, rfl, ⟨mkF 32 [], [rW w, rC c, .dead, .live 1 [[.osl 2 4 ((trfS w c t).length + 1) 0 ((trfS w c t).length + 1)]], rowTx (trfS w c (t + 1)), .obj (.loop l L)]⟩, Weak.trans (weak_any ?_) (weak_frz2 6 (Nat.le_refl 6) ⟨.same _ (rowB_rW w), .same _ (rowB_rC c), .same _ trivial, .same _ (rowB_osl (by decide)), ?_, .same _ rowB_obj, trivial⟩ (kpL_refl rfl)), rfl⟩
        · simp only [vx, vz, Nat.reduceAdd, Nat.reduceSub, Nat.reduceMul, Nat.reduceLeDiff, Nat.reduceLT, Nat.reduceEqDiff, Nat.reduceBEq, Int.reduceToNat, Int.reduceNeg, Int.reduceEq, Int.reduceNe, Int.reduceLE, Int.reduceLT, reduceCtorEq, ↓reduceIte]
        · rw [trf_t hmv]
          exact rowK_tx (x := (c.fs, flds w c t))
      · rw [trf_t hmv]
        simp only [R11, setRows, trf_t hmv, List.length_append]
        rfl
    · subst hK
      refine ⟨rfl, ?_⟩
      simp only [R11]
      simp only [vx, vz, Nat.reduceAdd, Nat.reduceSub, Nat.reduceMul, Nat.reduceLeDiff, Nat.reduceLT, Nat.reduceEqDiff, Nat.reduceBEq, Int.reduceToNat, Int.reduceNeg, Int.reduceEq, Int.reduceNe, Int.reduceLE, Int.reduceLT, reduceCtorEq, ↓reduceIte]
      exact sn_all (es := txs (trfS w c w.rs.length)) rfl (by rw [List.length_map]) szt
  · rw [opn_no he, show trfV w c = .tup [.d (.sl 2 []), .d (.int .i64 (errS w [c]))] by unfold trfV; rw [if_neg he]; rfl]
    simp only [vx, vz, Nat.reduceAdd, Nat.reduceSub, Nat.reduceMul, Nat.reduceLeDiff, Nat.reduceLT, Nat.reduceEqDiff, Nat.reduceBEq, Int.reduceToNat, Int.reduceNeg, Int.reduceEq, Int.reduceNe, Int.reduceLE, Int.reduceLT, reduceCtorEq, ↓reduceIte, kills, List.flatMap_cons, List.flatMap_nil, hAll, hOf1, List.map, setRows, dt he]
end Go.Proofs.Mn

namespace Go.Proofs.Mn
open Go.Vx
/-- the first cycle that breaks, from the cycle u + 1 on -/
def stbG (w : Wv) (c : Chn) : Nat → Nat → Int
  | 0, _ => -1
  | n + 1, u => if brkS w c u = true then ((u + 1 : Nat) : Int) else stbG w c n (u + 1)
def stbS (w : Wv) (c : Chn) : Int := stbG w c (w.rs.length - 1) 0
abbrev stbV (w : Wv) (c : Chn) : V := .tup [.d (.int .i64 (if errS w [c] = 0 then stbS w c else 0)), .d (.int .i64 (errS w [c]))]
theorem stb_at {w : Wv} {c : Chn} {u : Nat} (h : u + 1 < w.rs.length) : stbG w c (w.rs.length - 1 - u) u = if brkS w c u = true then ((u + 1 : Nat) : Int) else stbG w c (w.rs.length - 1 - (u + 1)) (u + 1) := by
  rw [show w.rs.length - 1 - u = (w.rs.length - 1 - (u + 1)) + 1 by omega, stbG]
theorem stb_end {w : Wv} {c : Chn} {u : Nat} (h : w.rs.length ≤ u + 1) : stbG w c (w.rs.length - 1 - u) u = -1 := by
  rw [show w.rs.length - 1 - u = 0 by omega, stbG]
theorem t19 (w : Wv) (c : Chn) (okw : okW w) (okc : okC c) : CallP Tryd.prog 19 [wvV w, chV c] (stbV w c) := by
  have hb := mxB; have hm := hm; have hL := mL; have hrl := okw.rl
  refine go19 ac19 rfl ?_
  simp only [vx, vz, Nat.reduceAdd, Nat.reduceSub, Nat.reduceMul, Nat.reduceLeDiff, Nat.reduceLT, Nat.reduceEqDiff, Nat.reduceBEq, Int.reduceToNat, Int.reduceNeg, Int.reduceEq, Int.reduceNe, Int.reduceLE, Int.reduceLT, reduceCtorEq, ↓reduceIte, ac19]
  refine call_k (v := opnS w [c]) (by simp [snapOk, snapCOk, Go.Vx.rowAt, isD, noH, noH1, noH2]) (by simpa [snapV, snapC, toD, Chn.d] using t27 w [c] okw (by simp) (by simpa using okc)) ?_
  by_cases he : errS w [c] = 0
  · obtain ⟨h1, hv, h3⟩ := opn_ok he
    rw [h1, show stbV w c = .tup [.d (.int .i64 (stbS w c)), .d (.int .i64 0)] by unfold stbV; rw [if_pos he, he]]
    simp only [vx, vz, Nat.reduceAdd, Nat.reduceSub, Nat.reduceMul, Nat.reduceLeDiff, Nat.reduceLT, Nat.reduceEqDiff, Nat.reduceBEq, Int.reduceToNat, Int.reduceNeg, Int.reduceEq, Int.reduceNe, Int.reduceLE, Int.reduceLT, reduceCtorEq, ↓reduceIte, kills, List.flatMap_cons, List.flatMap_nil, hAll, hOf1, List.map, setRows]
    refine loop_st (fun u : Nat => ⟨mkF 32 [(2, .optr 2 0 1 0 0), (6, .d (.sl 7 [vwD w c])), (8, .d (.int .i64 (u + 1 : Nat)))], [rW w, rC c, .dead]⟩) (fun u => stbS w c = stbG w c (w.rs.length - 1 - u) u) (fun u => w.rs.length - u) 0 (weak_any (by simp only [vx, vz, Nat.reduceAdd, Nat.reduceSub, Nat.reduceMul, Nat.reduceLeDiff, Nat.reduceLT, Nat.reduceEqDiff, Nat.reduceBEq, Int.reduceToNat, Int.reduceNeg, Int.reduceEq, Int.reduceNe, Int.reduceLE, Int.reduceLT, reduceCtorEq, ↓reduceIte]; try trivial)) rfl (fun u hi => ?_)
    simp only [vx, vz, Nat.reduceAdd, Nat.reduceSub, Nat.reduceMul, Nat.reduceLeDiff, Nat.reduceLT, Nat.reduceEqDiff, Nat.reduceBEq, Int.reduceToNat, Int.reduceNeg, Int.reduceEq, Int.reduceNe, Int.reduceLE, Int.reduceLT, reduceCtorEq, ↓reduceIte]
    refine cond_split (fun hc => ?_) (fun hc => ?_)
    · simp only [decide_eq_true_eq] at hc
      rw [stb_at (by omega)] at hi
      simp only [vx, vz, Nat.reduceAdd, Nat.reduceSub, Nat.reduceMul, Nat.reduceLeDiff, Nat.reduceLT, Nat.reduceEqDiff, Nat.reduceBEq, Int.reduceToNat, Int.reduceNeg, Int.reduceEq, Int.reduceNe, Int.reduceLE, Int.reduceLT, reduceCtorEq, ↓reduceIte]
      refine ⟨Nat.le_refl 7, ?_⟩
      simp only [vx, vz, Nat.reduceAdd, Nat.reduceSub, Nat.reduceMul, Nat.reduceLeDiff, Nat.reduceLT, Nat.reduceEqDiff, Nat.reduceBEq, Int.reduceToNat, Int.reduceNeg, Int.reduceEq, Int.reduceNe, Int.reduceLE, Int.reduceLT, reduceCtorEq, ↓reduceIte, vwD]
      refine call_p rfl (t39 w c u okc hv (h3 c (by simp)) (by omega) hrl) ?_
      simp only [vx, vz, Nat.reduceAdd, Nat.reduceSub, Nat.reduceMul, Nat.reduceLeDiff, Nat.reduceLT, Nat.reduceEqDiff, Nat.reduceBEq, Int.reduceToNat, Int.reduceNeg, Int.reduceEq, Int.reduceNe, Int.reduceLE, Int.reduceLT, reduceCtorEq, ↓reduceIte]
      cases hbk : brkS w c u with
      | true =>
        rw [if_pos hbk] at hi
        simp only [vx, vz, Nat.reduceAdd, Nat.reduceSub, Nat.reduceMul, Nat.reduceLeDiff, Nat.reduceLT, Nat.reduceEqDiff, Nat.reduceBEq, Int.reduceToNat, Int.reduceNeg, Int.reduceEq, Int.reduceNe, Int.reduceLE, Int.reduceLT, reduceCtorEq, ↓reduceIte, hi]
      | false =>
        rw [if_neg (by rw [hbk]; decide)] at hi
        simp only [vx, vz, Nat.reduceAdd, Nat.reduceSub, Nat.reduceMul, Nat.reduceLeDiff, Nat.reduceLT, Nat.reduceEqDiff, Nat.reduceBEq, Int.reduceToNat, Int.reduceNeg, Int.reduceEq, Int.reduceNe, Int.reduceLE, Int.reduceLT, reduceCtorEq, ↓reduceIte]
        refine ls_n (u + 1) (by omega) (weak_any ?_) hi
        simp only [vx, vz, Nat.reduceAdd, Nat.reduceSub, Nat.reduceMul, Nat.reduceLeDiff, Nat.reduceLT, Nat.reduceEqDiff, Nat.reduceBEq, Int.reduceToNat, Int.reduceNeg, Int.reduceEq, Int.reduceNe, Int.reduceLE, Int.reduceLT, reduceCtorEq, ↓reduceIte, vwD]
        rw [wr_i64 (by omega) (by omega)]
        rfl
    · simp only [decide_eq_false_iff_not] at hc
      rw [stb_end (by omega)] at hi
      simp only [vx, vz, Nat.reduceAdd, Nat.reduceSub, Nat.reduceMul, Nat.reduceLeDiff, Nat.reduceLT, Nat.reduceEqDiff, Nat.reduceBEq, Int.reduceToNat, Int.reduceNeg, Int.reduceEq, Int.reduceNe, Int.reduceLE, Int.reduceLT, reduceCtorEq, ↓reduceIte, hi]
  · rw [opn_no he, show stbV w c = .tup [.d (.int .i64 0), .d (.int .i64 (errS w [c]))] by unfold stbV; rw [if_neg he]]
    simp only [vx, vz, Nat.reduceAdd, Nat.reduceSub, Nat.reduceMul, Nat.reduceLeDiff, Nat.reduceLT, Nat.reduceEqDiff, Nat.reduceBEq, Int.reduceToNat, Int.reduceNeg, Int.reduceEq, Int.reduceNe, Int.reduceLE, Int.reduceLT, reduceCtorEq, ↓reduceIte, kills, List.flatMap_cons, List.flatMap_nil, hAll, hOf1, List.map, setRows, dt he]
/-- the differences of numbers -/
def difZ (a b : List Int) : List Int := List.zipWith (fun x y => y - x) a b
theorem difZ_len (a b : List Int) : (difZ a b).length = min a.length b.length := by rw [difZ, List.length_zipWith]
theorem difZ_at {a b : List Int} {i : Nat} {x y : Int} (h1 : a[i]? = some x) (h2 : b[i]? = some y) : (difZ a b)[i]? = some (y - x) := by
  rw [difZ, List.getElem?_zipWith, h1, h2]
def latS (w : Wv) (a b : Chn) : List Int := difZ (cycS w a) (cycS w b)
abbrev latV (w : Wv) (a b : Chn) : V := .tup [.d (.sl 1 (ints (if errS w [a, b] = 0 then latS w a b else []))), .d (.int .i64 (errS w [a, b]))]
theorem cyc_len (w : Wv) (c : Chn) : (cycS w c).length ≤ w.rs.length := by
  rw [cycS, zs_len]; exact trs_len w c _
theorem trs_lt {w : Wv} {c : Chn} {n t : Nat} (h : t ∈ trsN w c n) : t < n ∧ movS w c t = true := by
  rw [trsN, List.mem_filter, List.mem_range] at h
  exact h
theorem cyc_at {w : Wv} {c : Chn} {i : Nat} {x : Int} (h : (cycS w c)[i]? = some x) : ∃ t : Nat, x = t ∧ t < w.rs.length ∧ movS w c t = true := by
  rw [cycS, zs, List.getElem?_map, Option.map_eq_some_iff] at h
  obtain ⟨t, h1, rfl⟩ := h
  exact ⟨t, rfl, trs_lt (List.mem_of_getElem? h1)⟩
theorem t21 (w : Wv) (a b : Chn) (okw : okW w) (oka : okC a) (okb : okC b) : CallP Tryd.prog 21 [wvV w, chV a, chV b] (latV w a b) := by
  have hb := mxB; have hm := hm; have hL := mL; have hrl := okw.rl
  refine go21 ac21 rfl ?_
  simp only [vx, vz, Nat.reduceAdd, Nat.reduceSub, Nat.reduceMul, Nat.reduceLeDiff, Nat.reduceLT, Nat.reduceEqDiff, Nat.reduceBEq, Int.reduceToNat, Int.reduceNeg, Int.reduceEq, Int.reduceNe, Int.reduceLE, Int.reduceLT, reduceCtorEq, ↓reduceIte, ac21]
  refine call_k (v := opnS w [a, b]) (by simp [snapOk, snapCOk, Go.Vx.rowAt, isD, noH, noH1, noH2]) (by simpa [snapV, snapC, toD, Chn.d] using t27 w [a, b] okw (by simp) (by simpa using ⟨oka, okb⟩)) ?_
  by_cases he : errS w [a, b] = 0
  · obtain ⟨h1, hv, h3⟩ := opn_ok he
    obtain ⟨k1, k2, k3, k4⟩ := vldW_in hv
    rw [h1, show latV w a b = .tup [.d (.sl 1 (ints (latS w a b))), .d (.int .i64 0)] by unfold latV; rw [if_pos he, he]]
    simp only [vx, vz, Nat.reduceAdd, Nat.reduceSub, Nat.reduceMul, Nat.reduceLeDiff, Nat.reduceLT, Nat.reduceEqDiff, Nat.reduceBEq, Int.reduceToNat, Int.reduceNeg, Int.reduceEq, Int.reduceNe, Int.reduceLE, Int.reduceLT, reduceCtorEq, ↓reduceIte, kills, List.flatMap_cons, List.flatMap_nil, hAll, hOf1, List.map, setRows]
    refine c_draw ?_
    simp only [vx, vz, Nat.reduceAdd, Nat.reduceSub, Nat.reduceMul, Nat.reduceLeDiff, Nat.reduceLT, Nat.reduceEqDiff, Nat.reduceBEq, Int.reduceToNat, Int.reduceNeg, Int.reduceEq, Int.reduceNe, Int.reduceLE, Int.reduceLT, reduceCtorEq, ↓reduceIte]
    repeat (refine d_k rfl rfl ?_; simp only [vx, vz, Nat.reduceAdd, Nat.reduceSub, Nat.reduceMul, Nat.reduceLeDiff, Nat.reduceLT, Nat.reduceEqDiff, Nat.reduceBEq, Int.reduceToNat, Int.reduceNeg, Int.reduceEq, Int.reduceNe, Int.reduceLE, Int.reduceLT, reduceCtorEq, ↓reduceIte])
    refine ⟨Nat.le_refl 7, ?_⟩
    simp only [vx, vz, Nat.reduceAdd, Nat.reduceSub, Nat.reduceMul, Nat.reduceLeDiff, Nat.reduceLT, Nat.reduceEqDiff, Nat.reduceBEq, Int.reduceToNat, Int.reduceNeg, Int.reduceEq, Int.reduceNe, Int.reduceLE, Int.reduceLT, reduceCtorEq, ↓reduceIte, vwD]
    repeat (refine d_k rfl rfl ?_; simp only [vx, vz, Nat.reduceAdd, Nat.reduceSub, Nat.reduceMul, Nat.reduceLeDiff, Nat.reduceLT, Nat.reduceEqDiff, Nat.reduceBEq, Int.reduceToNat, Int.reduceNeg, Int.reduceEq, Int.reduceNe, Int.reduceLE, Int.reduceLT, reduceCtorEq, ↓reduceIte])
    refine call_p rfl (t30 w a oka hv (h3 a (by simp)) hrl) ?_
    repeat (refine d_k rfl rfl ?_; simp only [vx, vz, Nat.reduceAdd, Nat.reduceSub, Nat.reduceMul, Nat.reduceLeDiff, Nat.reduceLT, Nat.reduceEqDiff, Nat.reduceBEq, Int.reduceToNat, Int.reduceNeg, Int.reduceEq, Int.reduceNe, Int.reduceLE, Int.reduceLT, reduceCtorEq, ↓reduceIte])
    refine call_p rfl (t30 w b okb hv (h3 b (by simp)) hrl) ?_
    repeat (refine d_k rfl rfl ?_; simp only [vx, vz, Nat.reduceAdd, Nat.reduceSub, Nat.reduceMul, Nat.reduceLeDiff, Nat.reduceLT, Nat.reduceEqDiff, Nat.reduceBEq, Int.reduceToNat, Int.reduceNeg, Int.reduceEq, Int.reduceNe, Int.reduceLE, Int.reduceLT, reduceCtorEq, ↓reduceIte])
    have l1 := cyc_len w a
    have l2 := cyc_len w b
    obtain ⟨x, hx⟩ : ∃ x, x = cycS w a := ⟨_, rfl⟩
    obtain ⟨y, hy⟩ : ∃ y, y = cycS w b := ⟨_, rfl⟩
    unfold latS
    have hxa : ∀ (i : Nat) (z : Int), x[i]? = some z → 0 ≤ z ∧ z ≤ 4096 := fun i z h => by rw [hx] at h; obtain ⟨t, h1, h2, _⟩ := cyc_at h; omega
    have hyb : ∀ (i : Nat) (z : Int), y[i]? = some z → 0 ≤ z ∧ z ≤ 4096 := fun i z h => by rw [hy] at h; obtain ⟨t, h1, h2, _⟩ := cyc_at h; omega
    rw [← hx] at l1
    rw [← hy] at l2
    rw [← hx, ← hy]
    have hdl := difZ_len x y
    refine loop_st (fun i : Nat => ⟨mkF 55 [(10, .d (.sl 1 (ints x))), (11, .d (.sl 1 (ints y))), (12, .osl 1 4 i 0 i), (37, .d (.int .i64 ((difZ x y).length : Nat))), (38, .d (.int .i64 i))], [rW w, rC a, rC b, .dead, rowInts ((difZ x y).take i)]⟩) (fun i => i ≤ (difZ x y).length) (fun i => (difZ x y).length - i) 0 (Weak.trans (weak_nils 12 1 rfl) (weak_any (by simp only [vx, vz, Nat.reduceAdd, Nat.reduceSub, Nat.reduceMul, Nat.reduceLeDiff, Nat.reduceLT, Nat.reduceEqDiff, Nat.reduceBEq, Int.reduceToNat, Int.reduceNeg, Int.reduceEq, Int.reduceNe, Int.reduceLE, Int.reduceLT, reduceCtorEq, ↓reduceIte]; rw [hdl]; split <;> omega))) (by omega) (fun i hi => ?_)
    have hci : ((difZ x y).take i).length = i := by rw [List.length_take]; omega
    simp only [vx, vz, Nat.reduceAdd, Nat.reduceSub, Nat.reduceMul, Nat.reduceLeDiff, Nat.reduceLT, Nat.reduceEqDiff, Nat.reduceBEq, Int.reduceToNat, Int.reduceNeg, Int.reduceEq, Int.reduceNe, Int.reduceLE, Int.reduceLT, reduceCtorEq, ↓reduceIte]
    refine cond_split (fun hc => ?_) (fun hc => ?_)
    · simp only [decide_eq_true_eq] at hc
      obtain ⟨p, hp⟩ := get_ex (l := x) (i := i) (by omega)
      obtain ⟨q, hq⟩ := get_ex (l := y) (i := i) (by omega)
      have b1 := hxa i p hp
      have b2 := hyb i q hq
      simp only [vx, vz, Nat.reduceAdd, Nat.reduceSub, Nat.reduceMul, Nat.reduceLeDiff, Nat.reduceLT, Nat.reduceEqDiff, Nat.reduceBEq, Int.reduceToNat, Int.reduceNeg, Int.reduceEq, Int.reduceNe, Int.reduceLE, Int.reduceLT, reduceCtorEq, ↓reduceIte]
      refine c_draw ?_
      simp only [vx, vz, Nat.reduceAdd, Nat.reduceSub, Nat.reduceMul, Nat.reduceLeDiff, Nat.reduceLT, Nat.reduceEqDiff, Nat.reduceBEq, Int.reduceToNat, Int.reduceNeg, Int.reduceEq, Int.reduceNe, Int.reduceLE, Int.reduceLT, reduceCtorEq, ↓reduceIte]
      repeat (refine d_k rfl rfl ?_; simp only [vx, vz, Nat.reduceAdd, Nat.reduceSub, Nat.reduceMul, Nat.reduceLeDiff, Nat.reduceLT, Nat.reduceEqDiff, Nat.reduceBEq, Int.reduceToNat, Int.reduceNeg, Int.reduceEq, Int.reduceNe, Int.reduceLE, Int.reduceLT, reduceCtorEq, ↓reduceIte])
      refine ⟨by omega, by omega, getM_at hq ?_⟩
      simp only [vx, vz, Nat.reduceAdd, Nat.reduceSub, Nat.reduceMul, Nat.reduceLeDiff, Nat.reduceLT, Nat.reduceEqDiff, Nat.reduceBEq, Int.reduceToNat, Int.reduceNeg, Int.reduceEq, Int.reduceNe, Int.reduceLE, Int.reduceLT, reduceCtorEq, ↓reduceIte]
      simp only [vx, vz, Nat.reduceAdd, Nat.reduceSub, Nat.reduceMul, Nat.reduceLeDiff, Nat.reduceLT, Nat.reduceEqDiff, Nat.reduceBEq, Int.reduceToNat, Int.reduceNeg, Int.reduceEq, Int.reduceNe, Int.reduceLE, Int.reduceLT, reduceCtorEq, ↓reduceIte, iD]
      repeat (refine d_k rfl rfl ?_; simp only [vx, vz, Nat.reduceAdd, Nat.reduceSub, Nat.reduceMul, Nat.reduceLeDiff, Nat.reduceLT, Nat.reduceEqDiff, Nat.reduceBEq, Int.reduceToNat, Int.reduceNeg, Int.reduceEq, Int.reduceNe, Int.reduceLE, Int.reduceLT, reduceCtorEq, ↓reduceIte])
      refine ⟨by omega, by omega, getM_at hp ?_⟩
      simp only [vx, vz, Nat.reduceAdd, Nat.reduceSub, Nat.reduceMul, Nat.reduceLeDiff, Nat.reduceLT, Nat.reduceEqDiff, Nat.reduceBEq, Int.reduceToNat, Int.reduceNeg, Int.reduceEq, Int.reduceNe, Int.reduceLE, Int.reduceLT, reduceCtorEq, ↓reduceIte]
      simp only [vx, vz, Nat.reduceAdd, Nat.reduceSub, Nat.reduceMul, Nat.reduceLeDiff, Nat.reduceLT, Nat.reduceEqDiff, Nat.reduceBEq, Int.reduceToNat, Int.reduceNeg, Int.reduceEq, Int.reduceNe, Int.reduceLE, Int.reduceLT, reduceCtorEq, ↓reduceIte, iD]
      repeat (refine d_k rfl rfl ?_; simp only [vx, vz, Nat.reduceAdd, Nat.reduceSub, Nat.reduceMul, Nat.reduceLeDiff, Nat.reduceLT, Nat.reduceEqDiff, Nat.reduceBEq, Int.reduceToNat, Int.reduceNeg, Int.reduceEq, Int.reduceNe, Int.reduceLE, Int.reduceLT, reduceCtorEq, ↓reduceIte])
      refine ⟨by omega, by omega, ?_⟩
      repeat (refine d_k rfl rfl ?_; simp only [vx, vz, Nat.reduceAdd, Nat.reduceSub, Nat.reduceMul, Nat.reduceLeDiff, Nat.reduceLT, Nat.reduceEqDiff, Nat.reduceBEq, Int.reduceToNat, Int.reduceNeg, Int.reduceEq, Int.reduceNe, Int.reduceLE, Int.reduceLT, reduceCtorEq, ↓reduceIte])
      refine ls_n (i + 1) (by omega) (Weak.trans (weak_any ?_) (weak_frz2 5 (by omega) ⟨.same _ (rowB_rW w), .same _ (rowB_rC a), .same _ (rowB_rC b), .same _ trivial, ?_, trivial⟩ (kpL_refl rfl))) (by omega)
      · simp only [vx, vz, Nat.reduceAdd, Nat.reduceSub, Nat.reduceMul, Nat.reduceLeDiff, Nat.reduceLT, Nat.reduceEqDiff, Nat.reduceBEq, Int.reduceToNat, Int.reduceNeg, Int.reduceEq, Int.reduceNe, Int.reduceLE, Int.reduceLT, reduceCtorEq, ↓reduceIte]
        rw [wr_i64 (by omega) (by omega)]
        first | trivial | exact ⟨rfl, rfl⟩
      · rw [take_at (difZ_at hp hq), wr_i64 (by omega) (by omega)]
        exact rowK_int
    · simp only [decide_eq_false_iff_not] at hc
      obtain rfl : i = (difZ x y).length := by omega
      simp only [vx, vz, Nat.reduceAdd, Nat.reduceSub, Nat.reduceMul, Nat.reduceLeDiff, Nat.reduceLT, Nat.reduceEqDiff, Nat.reduceBEq, Int.reduceToNat, Int.reduceNeg, Int.reduceEq, Int.reduceNe, Int.reduceLE, Int.reduceLT, reduceCtorEq, ↓reduceIte]
      rw [List.take_of_length_le (by omega)]
      exact sn_all (es := ints (difZ x y)) rfl (by simp) szi
  · rw [opn_no he, show latV w a b = .tup [.d (.sl 1 []), .d (.int .i64 (errS w [a, b]))] by unfold latV; rw [if_neg he]; rfl]
    simp only [vx, vz, Nat.reduceAdd, Nat.reduceSub, Nat.reduceMul, Nat.reduceLeDiff, Nat.reduceLT, Nat.reduceEqDiff, Nat.reduceBEq, Int.reduceToNat, Int.reduceNeg, Int.reduceEq, Int.reduceNe, Int.reduceLE, Int.reduceLT, reduceCtorEq, ↓reduceIte, kills, List.flatMap_cons, List.flatMap_nil, hAll, hOf1, List.map, setRows, dt he]
end Go.Proofs.Mn
