import Derived.Test.YtacjcacadekceaaDoorW4
set_option linter.unusedSimpArgs false
set_option linter.unusedVariables false
namespace Go.Proofs.Dr
open Go.Vx
def T6b : AC := AC.sub [1, 1, 1, 1, 1, 1] (AC.at AC.wk [1, 1, 1, 1, 1, 1, 1, 1] (AC.at AC.wk [1, 1, 1, 1, 1, 1, 1, 1, 1] ac6))
abbrev bD (b : Bool) : List D := [.bool b]
theorem wait_le {w : Int} : waitI w ≤ w + 1 := by unfold waitI; split <;> omega
theorem drv_hd (d : Dv) (c : Chn) : ∃ tl, drvS d c = (c.va, bit (onS d)) :: tl := by
  have key : ∀ (l : List B) (o : List Sg) (x : Sg), ∃ tl, drvG d l (x :: o) = x :: tl := by
    intro l
    induction l with
    | nil => intro o x; exact ⟨o, rfl⟩
    | cons n l ih =>
      intro o x
      rw [drvG, addS]
      split
      · exact ih o x
      · exact ih _ x
  exact key c.fs [] _
theorem drv_eq {a b : Dv} (c : Chn) (h : a.sl = b.sl) (h2 : a.at_ = b.at_) (hv : vldD a = vldD b) : drvS a c = drvS b c := by
  have hb := bus_at h h2
  have ho : onS a = onS b := by unfold onS; rw [hb, hv]
  have hn : nowS a = nowS b := by unfold nowS; rw [h, h2]
  have hf : ∀ n, fldS a n = fldS b n := fun n => by unfold fldS; rw [hn, ho]
  have key : ∀ (l : List B) (o : List Sg), drvG a l o = drvG b l o := by
    intro l
    induction l with
    | nil => intro o; rfl
    | cons n l ih => intro o; rw [drvG, drvG, hf, ih]
  rw [drvS, drvS, ho, key]
abbrev st6 (l : List Slo) (c : Chn) (rs : List Bool) (p : Nat × Int × Int) : St := ⟨mkF 177 [(0, slL l), (4, .optr 3 0 1 0 0), (6, .d (.bool false)), (9, .optr 3 1 1 0 0), (10, .osl 2 2 (sntL (l.take p.2.1.toNat)).length 0 (sntL (l.take p.2.1.toNat)).length), (11, .d (.int .i64 p.2.2)), (49, .d (.sl 1 (rs.map bD))), (50, .d (.int .i64 rs.length)), (51, .d (.int .i64 p.1))], [rC c, rD ⟨l, p.2.1, p.2.2⟩, rT (sntL (l.take p.2.1.toNat))]⟩
set_option maxRecDepth 10000 in
theorem s6b (l : List Slo) (c : Chn) (rs0 : List Bool) (ok : okLs l) (hl : l.length ≤ 40) (hcf : c.fs.length ≤ 20000000) (hv : vldD ⟨l, 0, 0⟩ = true) :
    wpC Tryd.prog 0 T6b (retQ [.tmp 6] (.d (.bool true))) ⟨mkF 177 [(0, slL l), (2, .d (.sl 1 (rs0.map bD))), (4, .optr 3 0 1 0 0), (6, .d (.bool false)), (9, .optr 3 1 1 0 0), (10, .d .nils), (11, .d (.int .i64 0))], [rC c, rD ⟨l, 0, 0⟩]⟩ := by
  have hb := mxB
  obtain ⟨n, hn, hn1, hn2⟩ : ∃ n : Nat, (if (80 : Int) < (rs0.length : Int) then (80 : Int) else (rs0.length : Int)) = n ∧ n ≤ 80 ∧ n ≤ rs0.length := by
    by_cases h : (80 : Int) < (rs0.length : Int)
    · exact ⟨80, by rw [if_pos h]; rfl, by omega, by omega⟩
    · exact ⟨rs0.length, by rw [if_neg h], by omega, by omega⟩
  obtain ⟨rs, hrs⟩ : ∃ rs, rs = rs0.take n := ⟨_, rfl⟩
  have hrl : rs.length = n := by rw [hrs, List.length_take]; omega
  have hrm : (rs0.map bD).take n = rs.map bD := by rw [hrs, List.map_take]
  simp only [vx, vz, Nat.reduceAdd, Nat.reduceSub, Nat.reduceMul, Nat.reduceLeDiff, Nat.reduceLT, Nat.reduceEqDiff, Nat.reduceBEq, Int.reduceToNat, Int.reduceNeg, Int.reduceEq, Int.reduceNe, Int.reduceLE, Int.reduceLT, reduceCtorEq, ↓reduceIte, T6b, ac6, AC.sub, AC.at, hn]
  refine ⟨by omega, by omega, ?_⟩
  refine loop_st (fun p : Nat × Int × Int => st6 l c rs p) (fun p => p.1 ≤ rs.length ∧ vldD ⟨l, p.2.1, p.2.2⟩ = true ∧ p.2.2 ≤ p.1) (fun p => rs.length - p.1) (0, 0, 0) (Weak.trans (weak_nils 10 2 rfl) (weak_any (by
      simp only [vx, vz, Nat.reduceAdd, Nat.reduceSub, Nat.reduceMul, Nat.reduceLeDiff, Nat.reduceLT, Nat.reduceEqDiff, Nat.reduceBEq, Int.reduceToNat, Int.reduceNeg, Int.reduceEq, Int.reduceNe, Int.reduceLE, Int.reduceLT, reduceCtorEq, ↓reduceIte, Int.toNat_natCast, hrm]
      try rfl))) ⟨by omega, hv, by simp⟩ (fun p hi => ?_)
  obtain ⟨i, a, w⟩ := p
  obtain ⟨hi1, hi2, hi3⟩ := hi
  simp only at hi1 hi2 hi3
  obtain ⟨h1, h2, h3, h4, h5, h6⟩ := vld_in hi2
  simp only at h1 h2 h3 h4 h5 h6
  have hsl := snt_len (l := l) (i := a.toNat)
  simp only [vx, vz, Nat.reduceAdd, Nat.reduceSub, Nat.reduceMul, Nat.reduceLeDiff, Nat.reduceLT, Nat.reduceEqDiff, Nat.reduceBEq, Int.reduceToNat, Int.reduceNeg, Int.reduceEq, Int.reduceNe, Int.reduceLE, Int.reduceLT, reduceCtorEq, ↓reduceIte, st6]
  refine cond_split (fun hc => ?_) (fun hc => ?_)
  · simp only [decide_eq_true_eq] at hc
    obtain ⟨r, hr⟩ := get_ex (l := rs) (i := i) (by omega)
    simp only [vx, vz, Nat.reduceAdd, Nat.reduceSub, Nat.reduceMul, Nat.reduceLeDiff, Nat.reduceLT, Nat.reduceEqDiff, Nat.reduceBEq, Int.reduceToNat, Int.reduceNeg, Int.reduceEq, Int.reduceNe, Int.reduceLE, Int.reduceLT, reduceCtorEq, ↓reduceIte]
    refine ⟨by omega, by omega, getM_at hr ?_⟩
    simp only [vx, vz, Nat.reduceAdd, Nat.reduceSub, Nat.reduceMul, Nat.reduceLeDiff, Nat.reduceLT, Nat.reduceEqDiff, Nat.reduceBEq, Int.reduceToNat, Int.reduceNeg, Int.reduceEq, Int.reduceNe, Int.reduceLE, Int.reduceLT, reduceCtorEq, ↓reduceIte]
    simp only [vx, vz, Nat.reduceAdd, Nat.reduceSub, Nat.reduceMul, Nat.reduceLeDiff, Nat.reduceLT, Nat.reduceEqDiff, Nat.reduceBEq, Int.reduceToNat, Int.reduceNeg, Int.reduceEq, Int.reduceNe, Int.reduceLE, Int.reduceLT, reduceCtorEq, ↓reduceIte, bD]
    refine call_p rfl (t20 ⟨l, a, w⟩ c ok hcf) ?_
    simp only [vx, vz, Nat.reduceAdd, Nat.reduceSub, Nat.reduceMul, Nat.reduceLeDiff, Nat.reduceLT, Nat.reduceEqDiff, Nat.reduceBEq, Int.reduceToNat, Int.reduceNeg, Int.reduceEq, Int.reduceNe, Int.reduceLE, Int.reduceLT, reduceCtorEq, ↓reduceIte]
    refine call_p rfl (t22 ⟨l, a, w⟩ r ok) ?_
    simp only [vx, vz, Nat.reduceAdd, Nat.reduceSub, Nat.reduceMul, Nat.reduceLeDiff, Nat.reduceLT, Nat.reduceEqDiff, Nat.reduceBEq, Int.reduceToNat, Int.reduceNeg, Int.reduceEq, Int.reduceNe, Int.reduceLE, Int.reduceLT, reduceCtorEq, ↓reduceIte]
    obtain ⟨tl, ht⟩ := drv_hd ⟨l, a, w⟩ c
    rw [ht]
    have hbon : onS ⟨l, a, w⟩ = busS ⟨l, a, w⟩ := by unfold onS; rw [hi2, Bool.true_and]
    rw [hbon]
    have e0 : decide (((tl.length + 1 : Nat) : Int) = 0) = false := decide_eq_false (by omega)
    have h0 : ∀ b : Int, ((c.va, b) :: tl)[0]? = some (c.va, b) := fun _ => rfl
    have htl : ((c.va, (1 : Int)) :: tl).length ≤ 40000000 := by
      have h7 := drvG_len ⟨l, a, w⟩ c.fs [(c.va, bit (onS ⟨l, a, w⟩))]
      have h8 : drvG ⟨l, a, w⟩ c.fs [(c.va, bit (onS ⟨l, a, w⟩))] = (c.va, bit (onS ⟨l, a, w⟩)) :: tl := ht
      rw [h8] at h7
      simp only [List.length_cons, List.length_nil] at h7 ⊢
      omega
    cases hd : donS ⟨l, a, w⟩ with
    | true =>
      have hbu : busS ⟨l, a, w⟩ = false := by
        unfold busS
        rw [now_no]
        unfold donS at hd
        simp only [Bool.or_eq_true, decide_eq_true_eq] at hd
        simp only; omega
      have hw : w = 0 := by
        have : ¬ 0 < w := fun h => by have := h5 h; rw [hbu] at this; cases this
        omega
      subst hw
      rw [hbu, stp_no (.inr hd)]
      have hS : sntS ⟨l, a, 0⟩ = sntL (l.take a.toNat) := by rw [sntS, if_pos hi2]
      have hvn := hi2
      have ej : a = a := rfl
      simp only [vx, vz, Nat.reduceAdd, Nat.reduceSub, Nat.reduceMul, Nat.reduceLeDiff, Nat.reduceLT, Nat.reduceEqDiff, Nat.reduceBEq, Int.reduceToNat, Int.reduceNeg, Int.reduceEq, Int.reduceNe, Int.reduceLE, Int.reduceLT, reduceCtorEq, ↓reduceIte, bit, e0]
      refine ⟨by omega, ?_⟩
      simp only [vx, vz, Nat.reduceAdd, Nat.reduceSub, Nat.reduceMul, Nat.reduceLeDiff, Nat.reduceLT, Nat.reduceEqDiff, Nat.reduceBEq, Int.reduceToNat, Int.reduceNeg, Int.reduceEq, Int.reduceNe, Int.reduceLE, Int.reduceLT, reduceCtorEq, ↓reduceIte, sgD]
      refine call_p rfl (t16 ⟨l, a, 0⟩ ok) ?_
      simp only [vx, vz, Nat.reduceAdd, Nat.reduceSub, Nat.reduceMul, Nat.reduceLeDiff, Nat.reduceLT, Nat.reduceEqDiff, Nat.reduceBEq, Int.reduceToNat, Int.reduceNeg, Int.reduceEq, Int.reduceNe, Int.reduceLE, Int.reduceLT, reduceCtorEq, ↓reduceIte]
      rw [hS]
      refine call_s (v := .d (.bool true)) (fun y hy => ?_) rfl ?_ ?_
      · simp only [List.nil_append, List.append_nil, List.mem_cons, List.not_mem_nil, or_false] at hy
        rcases hy with rfl | rfl
        · simp [snapOk, snapCOk, noH, noH1]
        · exact (snap_row (es := txs (sntL (l.take a.toNat))) rfl (by simp)).1
      · simp only [List.nil_append, List.append_nil, List.map_cons, List.map_nil]
        rw [(snap_row (es := txs (sntL (l.take a.toNat))) rfl (by simp)).2]
        exact t15 _ (sntL_ok (okLs_take ok _))
      simp only [vx, vz, Nat.reduceAdd, Nat.reduceSub, Nat.reduceMul, Nat.reduceLeDiff, Nat.reduceLT, Nat.reduceEqDiff, Nat.reduceBEq, Int.reduceToNat, Int.reduceNeg, Int.reduceEq, Int.reduceNe, Int.reduceLE, Int.reduceLT, reduceCtorEq, ↓reduceIte]
      refine ls_n (i + 1, a, 0) (by simp only; omega) ?_ ⟨by simp only; omega, hvn, by simp only; omega⟩
      refine Weak.trans (weak_any ?_) (weak_frz2 3 (by omega) ⟨.same _ (rowB_rC c), .same _ (rowB_rD ⟨l, a, 0⟩), .same _ rowB_data, trivial⟩ (kpL_refl rfl))
      simp only [vx, vz, Nat.reduceAdd, Nat.reduceSub, Nat.reduceMul, Nat.reduceLeDiff, Nat.reduceLT, Nat.reduceEqDiff, Nat.reduceBEq, Int.reduceToNat, Int.reduceNeg, Int.reduceEq, Int.reduceNe, Int.reduceLE, Int.reduceLT, reduceCtorEq, ↓reduceIte, Int.toNat_natCast]
      rw [wr_i64 (by omega) (by omega)]
      first | trivial | exact ⟨rfl, rfl⟩
    | false =>
      obtain ⟨j, s, hj, hs, hbu, he⟩ := stp_yes (r := r) hi2 hd
      simp only at hj hs
      subst hj
      have hjl := (List.getElem?_eq_some_iff.1 hs).1
      have es := snt_snoc hs
      rw [Int.toNat_natCast] at hsl
      have ej : ((j : Int) + 1).toNat = j + 1 := by omega
      have hvn := stp_valid r hi2
      have dj1 : decide ((j : Int) < 0) = false := decide_eq_false (by omega)
      have dj2 : decide ((l.length : Int) ≤ j) = false := decide_eq_false (by omega)
      cases hid : s.idl with
      | true =>
        rw [hid, if_pos rfl] at he es
        rw [he] at hvn
        rw [hbu, hid, he]
        have hS : sntS ⟨l, (j : Int) + 1, 0⟩ = sntL (l.take j) := by rw [sntS, if_pos hvn]; simp only; rw [ej, es]
        simp only [vx, vz, Nat.reduceAdd, Nat.reduceSub, Nat.reduceMul, Nat.reduceLeDiff, Nat.reduceLT, Nat.reduceEqDiff, Nat.reduceBEq, Int.reduceToNat, Int.reduceNeg, Int.reduceEq, Int.reduceNe, Int.reduceLE, Int.reduceLT, reduceCtorEq, ↓reduceIte, bit, e0]
        refine ⟨by omega, ?_⟩
        simp only [vx, vz, Nat.reduceAdd, Nat.reduceSub, Nat.reduceMul, Nat.reduceLeDiff, Nat.reduceLT, Nat.reduceEqDiff, Nat.reduceBEq, Int.reduceToNat, Int.reduceNeg, Int.reduceEq, Int.reduceNe, Int.reduceLE, Int.reduceLT, reduceCtorEq, ↓reduceIte, sgD, Int.toNat_natCast]
        refine call_p rfl (t16 ⟨l, (j : Int) + 1, 0⟩ ok) ?_
        simp only [vx, vz, Nat.reduceAdd, Nat.reduceSub, Nat.reduceMul, Nat.reduceLeDiff, Nat.reduceLT, Nat.reduceEqDiff, Nat.reduceBEq, Int.reduceToNat, Int.reduceNeg, Int.reduceEq, Int.reduceNe, Int.reduceLE, Int.reduceLT, reduceCtorEq, ↓reduceIte]
        rw [hS]
        refine call_s (v := .d (.bool true)) (fun y hy => ?_) rfl ?_ ?_
        · simp only [List.nil_append, List.append_nil, List.mem_cons, List.not_mem_nil, or_false] at hy
          rcases hy with rfl | rfl
          · simp [snapOk, snapCOk, noH, noH1]
          · exact (snap_row (es := txs (sntL (l.take j))) rfl (by simp)).1
        · simp only [List.nil_append, List.append_nil, List.map_cons, List.map_nil]
          rw [(snap_row (es := txs (sntL (l.take j))) rfl (by simp)).2]
          exact t15 _ (sntL_ok (okLs_take ok _))
        simp only [vx, vz, Nat.reduceAdd, Nat.reduceSub, Nat.reduceMul, Nat.reduceLeDiff, Nat.reduceLT, Nat.reduceEqDiff, Nat.reduceBEq, Int.reduceToNat, Int.reduceNeg, Int.reduceEq, Int.reduceNe, Int.reduceLE, Int.reduceLT, reduceCtorEq, ↓reduceIte]
        refine ls_n (i + 1, (j : Int) + 1, 0) (by simp only; omega) ?_ ⟨by simp only; omega, hvn, by simp only; omega⟩
        simp only [ej, es]
        refine Weak.trans (weak_any ?_) (weak_frz2 3 (by omega) ⟨.same _ (rowB_rC c), .same _ (rowB_rD ⟨l, (j : Int) + 1, 0⟩), .same _ rowB_data, trivial⟩ (kpL_refl rfl))
        simp only [vx, vz, Nat.reduceAdd, Nat.reduceSub, Nat.reduceMul, Nat.reduceLeDiff, Nat.reduceLT, Nat.reduceEqDiff, Nat.reduceBEq, Int.reduceToNat, Int.reduceNeg, Int.reduceEq, Int.reduceNe, Int.reduceLE, Int.reduceLT, reduceCtorEq, ↓reduceIte, Int.toNat_natCast, ej, es]
        rw [wr_i64 (by omega) (by omega)]
        first | trivial | exact ⟨rfl, rfl⟩
      | false =>
        rw [hid, if_neg (by decide)] at he es
        cases r with
        | true =>
          rw [if_pos rfl] at he
          rw [he] at hvn
          rw [hbu, hid, he]
          have hS : sntS ⟨l, (j : Int) + 1, 0⟩ = sntL (l.take j) ++ [s.tx] := by rw [sntS, if_pos hvn]; simp only; rw [ej, es]
          simp only [vx, vz, Nat.reduceAdd, Nat.reduceSub, Nat.reduceMul, Nat.reduceLeDiff, Nat.reduceLT, Nat.reduceEqDiff, Nat.reduceBEq, Int.reduceToNat, Int.reduceNeg, Int.reduceEq, Int.reduceNe, Int.reduceLE, Int.reduceLT, reduceCtorEq, ↓reduceIte, bit, e0, dj1, dj2]
          refine ⟨by omega, ?_⟩
          simp only [vx, vz, Nat.reduceAdd, Nat.reduceSub, Nat.reduceMul, Nat.reduceLeDiff, Nat.reduceLT, Nat.reduceEqDiff, Nat.reduceBEq, Int.reduceToNat, Int.reduceNeg, Int.reduceEq, Int.reduceNe, Int.reduceLE, Int.reduceLT, reduceCtorEq, ↓reduceIte, sgD, dj1, dj2]
          refine ⟨by omega, by omega, getM_at hs ?_⟩
          simp only [vx, vz, Nat.reduceAdd, Nat.reduceSub, Nat.reduceMul, Nat.reduceLeDiff, Nat.reduceLT, Nat.reduceEqDiff, Nat.reduceBEq, Int.reduceToNat, Int.reduceNeg, Int.reduceEq, Int.reduceNe, Int.reduceLE, Int.reduceLT, reduceCtorEq, ↓reduceIte]
          simp only [vx, vz, Nat.reduceAdd, Nat.reduceSub, Nat.reduceMul, Nat.reduceLeDiff, Nat.reduceLT, Nat.reduceEqDiff, Nat.reduceBEq, Int.reduceToNat, Int.reduceNeg, Int.reduceEq, Int.reduceNe, Int.reduceLE, Int.reduceLT, reduceCtorEq, ↓reduceIte, Slo.d, Int.toNat_natCast]
          refine ⟨by omega, ?_⟩
          rw [show (txs (sntL (l.take j))).map (fun x => x.map V.d) ++ [[V.d (D.sl 1 (strs s.tx.1)), V.d (D.sl 1 (ints s.tx.2))]] = (txs (sntL (l.take j) ++ [s.tx])).map (fun x => x.map V.d) by simp [txs]]
          refine call_p rfl (t16 ⟨l, (j : Int) + 1, 0⟩ ok) ?_
          simp only [vx, vz, Nat.reduceAdd, Nat.reduceSub, Nat.reduceMul, Nat.reduceLeDiff, Nat.reduceLT, Nat.reduceEqDiff, Nat.reduceBEq, Int.reduceToNat, Int.reduceNeg, Int.reduceEq, Int.reduceNe, Int.reduceLE, Int.reduceLT, reduceCtorEq, ↓reduceIte]
          rw [hS]
          refine call_s (v := .d (.bool true)) (fun y hy => ?_) rfl ?_ ?_
          · simp only [List.nil_append, List.append_nil, List.mem_cons, List.not_mem_nil, or_false] at hy
            rcases hy with rfl | rfl
            · simp [snapOk, snapCOk, noH, noH1]
            · exact (snap_row (es := txs (sntL (l.take j) ++ [s.tx])) rfl (by simp)).1
          · simp only [List.nil_append, List.append_nil, List.map_cons, List.map_nil]
            rw [(snap_row (es := txs (sntL (l.take j) ++ [s.tx])) rfl (by simp)).2]
            rw [← hS]
            exact t15 _ (snt_ok ok)
          simp only [vx, vz, Nat.reduceAdd, Nat.reduceSub, Nat.reduceMul, Nat.reduceLeDiff, Nat.reduceLT, Nat.reduceEqDiff, Nat.reduceBEq, Int.reduceToNat, Int.reduceNeg, Int.reduceEq, Int.reduceNe, Int.reduceLE, Int.reduceLT, reduceCtorEq, ↓reduceIte]
          refine ls_n (i + 1, (j : Int) + 1, 0) (by simp only; omega) ?_ ⟨by simp only; omega, hvn, by simp only; omega⟩
          simp only [ej, es]
          refine Weak.trans (weak_any ?_) (weak_frz2 3 (by omega) ⟨.same _ (rowB_rC c), .same _ (rowB_rD ⟨l, (j : Int) + 1, 0⟩), .same _ rowB_data, trivial⟩ (kpL_refl rfl))
          simp only [vx, vz, Nat.reduceAdd, Nat.reduceSub, Nat.reduceMul, Nat.reduceLeDiff, Nat.reduceLT, Nat.reduceEqDiff, Nat.reduceBEq, Int.reduceToNat, Int.reduceNeg, Int.reduceEq, Int.reduceNe, Int.reduceLE, Int.reduceLT, reduceCtorEq, ↓reduceIte, Int.toNat_natCast, ej]
          rw [wr_i64 (by omega) (by omega)]
          first | trivial | exact ⟨rfl, rfl⟩
        | false =>
          rw [if_neg (by decide)] at he
          rw [he] at hvn
          have hww : waitI w = w + 1 := by unfold waitI; rw [if_neg (by omega)]
          rw [hww] at he hvn
          have hnx : drvS ⟨l, (j : Int), w + 1⟩ c = (c.va, 1) :: tl := by
            rw [drv_eq (a := ⟨l, (j : Int), w + 1⟩) (b := ⟨l, (j : Int), w⟩) c rfl rfl (by rw [hi2]; exact hvn), ht, hbon, hbu, hid]; rfl
          rw [hbu, hid, he]
          have hS : sntS ⟨l, (j : Int), w + 1⟩ = sntL (l.take j) := by rw [sntS, if_pos hvn]; simp only; rw [Int.toNat_natCast]
          simp only [vx, vz, Nat.reduceAdd, Nat.reduceSub, Nat.reduceMul, Nat.reduceLeDiff, Nat.reduceLT, Nat.reduceEqDiff, Nat.reduceBEq, Int.reduceToNat, Int.reduceNeg, Int.reduceEq, Int.reduceNe, Int.reduceLE, Int.reduceLT, reduceCtorEq, ↓reduceIte, bit, e0]
          refine ⟨by omega, ?_⟩
          simp only [vx, vz, Nat.reduceAdd, Nat.reduceSub, Nat.reduceMul, Nat.reduceLeDiff, Nat.reduceLT, Nat.reduceEqDiff, Nat.reduceBEq, Int.reduceToNat, Int.reduceNeg, Int.reduceEq, Int.reduceNe, Int.reduceLE, Int.reduceLT, reduceCtorEq, ↓reduceIte, sgD, Int.toNat_natCast]
          refine call_p rfl (t20 ⟨l, (j : Int), w + 1⟩ c ok hcf) ?_
          simp only [vx, vz, Nat.reduceAdd, Nat.reduceSub, Nat.reduceMul, Nat.reduceLeDiff, Nat.reduceLT, Nat.reduceEqDiff, Nat.reduceBEq, Int.reduceToNat, Int.reduceNeg, Int.reduceEq, Int.reduceNe, Int.reduceLE, Int.reduceLT, reduceCtorEq, ↓reduceIte]
          rw [hnx]
          refine call_p rfl (t19 ((c.va, 1) :: tl) htl) ?_
          simp only [vx, vz, Nat.reduceAdd, Nat.reduceSub, Nat.reduceMul, Nat.reduceLeDiff, Nat.reduceLT, Nat.reduceEqDiff, Nat.reduceBEq, Int.reduceToNat, Int.reduceNeg, Int.reduceEq, Int.reduceNe, Int.reduceLE, Int.reduceLT, reduceCtorEq, ↓reduceIte]
          refine call_p rfl (t16 ⟨l, (j : Int), (w + 1)⟩ ok) ?_
          simp only [vx, vz, Nat.reduceAdd, Nat.reduceSub, Nat.reduceMul, Nat.reduceLeDiff, Nat.reduceLT, Nat.reduceEqDiff, Nat.reduceBEq, Int.reduceToNat, Int.reduceNeg, Int.reduceEq, Int.reduceNe, Int.reduceLE, Int.reduceLT, reduceCtorEq, ↓reduceIte]
          rw [hS]
          refine call_s (v := .d (.bool true)) (fun y hy => ?_) rfl ?_ ?_
          · simp only [List.nil_append, List.append_nil, List.mem_cons, List.not_mem_nil, or_false] at hy
            rcases hy with rfl | rfl
            · simp [snapOk, snapCOk, noH, noH1]
            · exact (snap_row (es := txs (sntL (l.take j))) rfl (by simp)).1
          · simp only [List.nil_append, List.append_nil, List.map_cons, List.map_nil]
            rw [(snap_row (es := txs (sntL (l.take j))) rfl (by simp)).2]
            rw [← hS]
            exact t15 _ (snt_ok ok)
          simp only [vx, vz, Nat.reduceAdd, Nat.reduceSub, Nat.reduceMul, Nat.reduceLeDiff, Nat.reduceLT, Nat.reduceEqDiff, Nat.reduceBEq, Int.reduceToNat, Int.reduceNeg, Int.reduceEq, Int.reduceNe, Int.reduceLE, Int.reduceLT, reduceCtorEq, ↓reduceIte]
          refine ls_n (i + 1, (j : Int), (w + 1)) (by simp only; omega) ?_ ⟨by simp only; omega, hvn, by simp only; omega⟩
          simp only [Int.toNat_natCast]
          refine Weak.trans (weak_any ?_) (weak_frz2 3 (by omega) ⟨.same _ (rowB_rC c), .same _ (rowB_rD ⟨l, (j : Int), w + 1⟩), .same _ rowB_data, trivial⟩ (kpL_refl rfl))
          simp only [vx, vz, Nat.reduceAdd, Nat.reduceSub, Nat.reduceMul, Nat.reduceLeDiff, Nat.reduceLT, Nat.reduceEqDiff, Nat.reduceBEq, Int.reduceToNat, Int.reduceNeg, Int.reduceEq, Int.reduceNe, Int.reduceLE, Int.reduceLT, reduceCtorEq, ↓reduceIte, Int.toNat_natCast, ej]
          rw [wr_i64 (n := w + 1) (by omega) (by omega), wr_i64 (n := (i : Int) + 1) (by omega) (by omega)]
          first | trivial | exact ⟨rfl, rfl⟩
  · simp only [decide_eq_false_iff_not] at hc
    simp only [vx, vz, Nat.reduceAdd, Nat.reduceSub, Nat.reduceMul, Nat.reduceLeDiff, Nat.reduceLT, Nat.reduceEqDiff, Nat.reduceBEq, Int.reduceToNat, Int.reduceNeg, Int.reduceEq, Int.reduceNe, Int.reduceLE, Int.reduceLT, reduceCtorEq, ↓reduceIte]
    refine call_p rfl (t8 l ok) ?_
    simp only [vx, vz, Nat.reduceAdd, Nat.reduceSub, Nat.reduceMul, Nat.reduceLeDiff, Nat.reduceLT, Nat.reduceEqDiff, Nat.reduceBEq, Int.reduceToNat, Int.reduceNeg, Int.reduceEq, Int.reduceNe, Int.reduceLE, Int.reduceLT, reduceCtorEq, ↓reduceIte]
    exact wk_in _ (Weak.trans (weak_any (fr' := mkF 177 [(0, slL l), (6, .d (.bool false)), (9, .optr 3 1 1 0 0)]) (by simp only [vx, vz, Nat.reduceAdd, Nat.reduceSub, Nat.reduceMul, Nat.reduceLeDiff, Nat.reduceLT, Nat.reduceEqDiff, Nat.reduceBEq, Int.reduceToNat, Int.reduceNeg, Int.reduceEq, Int.reduceNe, Int.reduceLE, Int.reduceLT, reduceCtorEq, ↓reduceIte]; try trivial)) (weak_frz2 2 (by omega) (rows' := [rC c, rD ⟨l, 0, 0⟩]) ⟨.same _ (rowB_rC c), .same _ (rowB_rD ⟨l, 0, 0⟩), trivial⟩ (kpL_refl rfl))) (s6c l c ⟨l, 0, 0⟩ ok hl hv)
end Go.Proofs.Dr

namespace Go.Proofs.Dr
open Go.Vx
def T6a : AC := AC.at AC.wk [1, 1, 1, 1, 1, 1] (AC.at AC.wk [1, 1, 1, 1, 1, 1, 1, 1] (AC.at AC.wk [1, 1, 1, 1, 1, 1, 1, 1, 1] ac6))
theorem badS_eq (s : Slo) : badS s = (!s.idl && !vldT s.tx) := rfl
set_option maxRecDepth 10000 in
theorem l6 (l0 : List Slo) (c : Chn) (rs : List Bool) (ok0 : okLs l0) (hcf : c.fs.length ≤ 20000000) : CallP Tryd.prog 6 [slL l0, chV c, .d (.sl 1 (rs.map bD))] (.d (.bool true)) := by
  obtain ⟨n, hn, hn1, hn2⟩ : ∃ n : Nat, (if (40 : Int) < (l0.length : Int) then (40 : Int) else (l0.length : Int)) = n ∧ n ≤ 40 ∧ n ≤ l0.length := by
    by_cases h : (40 : Int) < (l0.length : Int)
    · exact ⟨40, by rw [if_pos h]; rfl, by omega, by omega⟩
    · exact ⟨l0.length, by rw [if_neg h], by omega, by omega⟩
  obtain ⟨l, hl⟩ : ∃ l, l = l0.take n := ⟨_, rfl⟩
  have hll : l.length = n := by rw [hl, List.length_take]; omega
  have hlm : (l0.map Slo.d).take n = l.map Slo.d := by rw [hl, List.map_take]
  have ok : okLs l := by rw [hl]; exact okLs_take ok0 _
  refine go6 T6a rfl ?_
  simp only [vx, vz, Nat.reduceAdd, Nat.reduceSub, Nat.reduceMul, Nat.reduceLeDiff, Nat.reduceLT, Nat.reduceEqDiff, Nat.reduceBEq, Int.reduceToNat, Int.reduceNeg, Int.reduceEq, Int.reduceNe, Int.reduceLE, Int.reduceLT, reduceCtorEq, ↓reduceIte, T6a, ac6, AC.at, hn]
  refine ⟨by omega, by omega, ?_⟩
  simp only [vx, vz, Nat.reduceAdd, Nat.reduceSub, Nat.reduceMul, Nat.reduceLeDiff, Nat.reduceLT, Nat.reduceEqDiff, Nat.reduceBEq, Int.reduceToNat, Int.reduceNeg, Int.reduceEq, Int.reduceNe, Int.reduceLE, Int.reduceLT, reduceCtorEq, ↓reduceIte, Int.toNat_natCast, hlm]
  refine loop_st (fun i : Nat => ⟨mkF 177 [(0, slL l), (2, .d (.sl 1 (rs.map bD))), (4, .optr 3 0 1 0 0), (6, .d (.bool false)), (26, slL l), (27, .d (.int .i64 l.length)), (28, .d (.int .i64 i))], [rC c]⟩) (fun i => i ≤ l.length ∧ (l.take i).any badS = false) (fun i => l.length - i) 0 (weak_any (by simp only [vx, vz, Nat.reduceAdd, Nat.reduceSub, Nat.reduceMul, Nat.reduceLeDiff, Nat.reduceLT, Nat.reduceEqDiff, Nat.reduceBEq, Int.reduceToNat, Int.reduceNeg, Int.reduceEq, Int.reduceNe, Int.reduceLE, Int.reduceLT, reduceCtorEq, ↓reduceIte]; try trivial)) ⟨by omega, rfl⟩ (fun i hi => ?_)
  obtain ⟨hi, hbad⟩ := hi
  simp only [vx, vz, Nat.reduceAdd, Nat.reduceSub, Nat.reduceMul, Nat.reduceLeDiff, Nat.reduceLT, Nat.reduceEqDiff, Nat.reduceBEq, Int.reduceToNat, Int.reduceNeg, Int.reduceEq, Int.reduceNe, Int.reduceLE, Int.reduceLT, reduceCtorEq, ↓reduceIte]
  refine cond_split (fun hc => ?_) (fun hc => ?_)
  · simp only [decide_eq_true_eq] at hc
    obtain ⟨x, hx⟩ := get_ex (l := l) (i := i) (by omega)
    simp only [vx, vz, Nat.reduceAdd, Nat.reduceSub, Nat.reduceMul, Nat.reduceLeDiff, Nat.reduceLT, Nat.reduceEqDiff, Nat.reduceBEq, Int.reduceToNat, Int.reduceNeg, Int.reduceEq, Int.reduceNe, Int.reduceLE, Int.reduceLT, reduceCtorEq, ↓reduceIte]
    refine ⟨by omega, by omega, getM_at hx ?_⟩
    simp only [vx, vz, Nat.reduceAdd, Nat.reduceSub, Nat.reduceMul, Nat.reduceLeDiff, Nat.reduceLT, Nat.reduceEqDiff, Nat.reduceBEq, Int.reduceToNat, Int.reduceNeg, Int.reduceEq, Int.reduceNe, Int.reduceLE, Int.reduceLT, reduceCtorEq, ↓reduceIte]
    simp only [vx, vz, Nat.reduceAdd, Nat.reduceSub, Nat.reduceMul, Nat.reduceLeDiff, Nat.reduceLT, Nat.reduceEqDiff, Nat.reduceBEq, Int.reduceToNat, Int.reduceNeg, Int.reduceEq, Int.reduceNe, Int.reduceLE, Int.reduceLT, reduceCtorEq, ↓reduceIte, Slo.d]
    have hb : (l.take (i + 1)).any badS = badS x := by rw [take_at hx, List.any_append, hbad]; simp
    have hfz : ∀ {fr : List V} {x : RowS}, fr.all (hB 1) = true → Weak 0 ⟨fr, [rC c, x]⟩ ⟨fr, [rC c]⟩ := fun h => weak_frz2 1 (by omega) ⟨.same _ (rowB_rC c), trivial⟩ (kpL_refl h)
    cases hid : x.idl with
    | true =>
      simp only [vx, vz, Nat.reduceAdd, Nat.reduceSub, Nat.reduceMul, Nat.reduceLeDiff, Nat.reduceLT, Nat.reduceEqDiff, Nat.reduceBEq, Int.reduceToNat, Int.reduceNeg, Int.reduceEq, Int.reduceNe, Int.reduceLE, Int.reduceLT, reduceCtorEq, ↓reduceIte]
      refine ls_n (i + 1) (by omega) (Weak.trans (weak_any ?_) (hfz rfl)) ⟨by omega, by rw [hb, badS_eq, hid]; rfl⟩
      simp only [vx, vz, Nat.reduceAdd, Nat.reduceSub, Nat.reduceMul, Nat.reduceLeDiff, Nat.reduceLT, Nat.reduceEqDiff, Nat.reduceBEq, Int.reduceToNat, Int.reduceNeg, Int.reduceEq, Int.reduceNe, Int.reduceLE, Int.reduceLT, reduceCtorEq, ↓reduceIte]
      rw [wr_i64 (by omega) (by omega)]
      first | trivial | exact ⟨rfl, rfl⟩
    | false =>
      simp only [vx, vz, Nat.reduceAdd, Nat.reduceSub, Nat.reduceMul, Nat.reduceLeDiff, Nat.reduceLT, Nat.reduceEqDiff, Nat.reduceBEq, Int.reduceToNat, Int.reduceNeg, Int.reduceEq, Int.reduceNe, Int.reduceLE, Int.reduceLT, reduceCtorEq, ↓reduceIte]
      refine call_p rfl (t24 x.tx (okT_X (ok.2 x (List.mem_of_getElem? hx)))) ?_
      simp only [vx, vz, Nat.reduceAdd, Nat.reduceSub, Nat.reduceMul, Nat.reduceLeDiff, Nat.reduceLT, Nat.reduceEqDiff, Nat.reduceBEq, Int.reduceToNat, Int.reduceNeg, Int.reduceEq, Int.reduceNe, Int.reduceLE, Int.reduceLT, reduceCtorEq, ↓reduceIte]
      cases hvt : vldT x.tx with
      | false =>
        simp only [vx, vz, Nat.reduceAdd, Nat.reduceSub, Nat.reduceMul, Nat.reduceLeDiff, Nat.reduceLT, Nat.reduceEqDiff, Nat.reduceBEq, Int.reduceToNat, Int.reduceNeg, Int.reduceEq, Int.reduceNe, Int.reduceLE, Int.reduceLT, reduceCtorEq, ↓reduceIte]
        refine call_p rfl (t18) ?_
        simp only [vx, vz, Nat.reduceAdd, Nat.reduceSub, Nat.reduceMul, Nat.reduceLeDiff, Nat.reduceLT, Nat.reduceEqDiff, Nat.reduceBEq, Int.reduceToNat, Int.reduceNeg, Int.reduceEq, Int.reduceNe, Int.reduceLE, Int.reduceLT, reduceCtorEq, ↓reduceIte]
      | true =>
        simp only [vx, vz, Nat.reduceAdd, Nat.reduceSub, Nat.reduceMul, Nat.reduceLeDiff, Nat.reduceLT, Nat.reduceEqDiff, Nat.reduceBEq, Int.reduceToNat, Int.reduceNeg, Int.reduceEq, Int.reduceNe, Int.reduceLE, Int.reduceLT, reduceCtorEq, ↓reduceIte]
        refine ls_n (i + 1) (by omega) (Weak.trans (weak_any ?_) (hfz rfl)) ⟨by omega, by rw [hb, badS_eq, hid, hvt]; rfl⟩
        simp only [vx, vz, Nat.reduceAdd, Nat.reduceSub, Nat.reduceMul, Nat.reduceLeDiff, Nat.reduceLT, Nat.reduceEqDiff, Nat.reduceBEq, Int.reduceToNat, Int.reduceNeg, Int.reduceEq, Int.reduceNe, Int.reduceLE, Int.reduceLT, reduceCtorEq, ↓reduceIte]
        rw [wr_i64 (by omega) (by omega)]
        first | trivial | exact ⟨rfl, rfl⟩
  · simp only [decide_eq_false_iff_not] at hc
    rw [List.take_of_length_le (by omega)] at hbad
    simp only [vx, vz, Nat.reduceAdd, Nat.reduceSub, Nat.reduceMul, Nat.reduceLeDiff, Nat.reduceLT, Nat.reduceEqDiff, Nat.reduceBEq, Int.reduceToNat, Int.reduceNeg, Int.reduceEq, Int.reduceNe, Int.reduceLE, Int.reduceLT, reduceCtorEq, ↓reduceIte]
    refine call_p rfl (t8 l ok) ?_
    simp only [vx, vz, Nat.reduceAdd, Nat.reduceSub, Nat.reduceMul, Nat.reduceLeDiff, Nat.reduceLT, Nat.reduceEqDiff, Nat.reduceBEq, Int.reduceToNat, Int.reduceNeg, Int.reduceEq, Int.reduceNe, Int.reduceLE, Int.reduceLT, reduceCtorEq, ↓reduceIte]
    exact wk_in _ (weak_any (by simp only [vx, vz, Nat.reduceAdd, Nat.reduceSub, Nat.reduceMul, Nat.reduceLeDiff, Nat.reduceLT, Nat.reduceEqDiff, Nat.reduceBEq, Int.reduceToNat, Int.reduceNeg, Int.reduceEq, Int.reduceNe, Int.reduceLE, Int.reduceLT, reduceCtorEq, ↓reduceIte]; try trivial)) (s6b l c rs ok (by omega) hcf (vld_of (by simp) (by simp) (by simp) (by simp) (by simp) hbad))
end Go.Proofs.Dr
