import Derived.Test.YtapgahonfifgnaaDoorS9
set_option linter.unusedSimpArgs false
set_option linter.unusedVariables false
namespace Go.Proofs.Sg
open Go.Vx
abbrev SB := Nat × List Bk × List Nat × Go.Vx.Rows
theorem t23 (l : List Rz) (hl : l.length ≤ 1000) (ok : ∀ r ∈ l, okR r) : CallP Tryd.prog 23 [rzL l] (.d (.sl 1 ((bucS l).map bkD))) := by
  have hm := hm
  have hL := mL
  refine go23 (AC.at AC.wk [1, 1, 1] ac23) rfl ?_
  simp only [vx, vz, Nat.reduceAdd, Nat.reduceSub, Nat.reduceMul, Nat.reduceLeDiff, Nat.reduceLT, Nat.reduceEqDiff, Nat.reduceBEq, Int.reduceToNat, Int.reduceNeg, Int.reduceEq, Int.reduceNe, Int.reduceLE, Int.reduceLT, reduceCtorEq, ↓reduceIte, ac23, AC.at]
  refine wk_in ⟨mkF 52 [(0, rzL l), (3, .osl 1 1 0 0 0), (4, .optr 0 0 0 1 0)], [.obj (.mp []), .live 1 []]⟩ (Weak.trans (weak_nils 3 1 rfl) (weak_any (by simp only [vx, vz, Nat.reduceAdd, Nat.reduceSub, Nat.reduceMul, Nat.reduceLeDiff, Nat.reduceLT, Nat.reduceEqDiff, Nat.reduceBEq, Int.reduceToNat, Int.reduceNeg, Int.reduceEq, Int.reduceNe, Int.reduceLE, Int.reduceLT, reduceCtorEq, ↓reduceIte]; try trivial))) ?_
  simp only [vx, vz, Nat.reduceAdd, Nat.reduceSub, Nat.reduceMul, Nat.reduceLeDiff, Nat.reduceLT, Nat.reduceEqDiff, Nat.reduceBEq, Int.reduceToNat, Int.reduceNeg, Int.reduceEq, Int.reduceNe, Int.reduceLE, Int.reduceLT, reduceCtorEq, ↓reduceIte]
  refine loop_st (fun p : SB => ⟨mkF 52 [(3, .osl 1 1 p.2.1.length 0 p.2.1.length), (4, .optr 0 0 0 1 0), (10, rzL l), (11, .d (.int .i64 l.length)), (12, .d (.int .i64 p.1))], .obj (.mp (keyIx p.2.1 0)) :: .live 1 (cels p.2.2.1 p.2.1) :: p.2.2.2⟩)
    (fun p => p.1 ≤ l.length ∧ bucS l = bucG (l.drop p.1) p.1 p.2.1 ∧ Hold p.2.2.2 p.2.2.1 p.2.1 ∧ p.2.1.length ≤ p.1 ∧ ∀ q ∈ p.2.1, q.2.length ≤ p.1) (fun p => l.length - p.1) (0, [], [], []) (weak_any (by simp only [vx, vz, Nat.reduceAdd, Nat.reduceSub, Nat.reduceMul, Nat.reduceLeDiff, Nat.reduceLT, Nat.reduceEqDiff, Nat.reduceBEq, Int.reduceToNat, Int.reduceNeg, Int.reduceEq, Int.reduceNe, Int.reduceLE, Int.reduceLT, reduceCtorEq, ↓reduceIte]; try trivial)) ?_ (fun p hp => ?_)
  · exact ⟨by simp, rfl, ⟨rfl, by simp, by simp⟩, by simp, by simp⟩
  obtain ⟨i, bs, hs, T⟩ := p
  obtain ⟨h1, h2, hH, hb, hq⟩ := hp
  simp only at h1 h2 hH hb hq
  simp only [vx, vz, Nat.reduceAdd, Nat.reduceSub, Nat.reduceMul, Nat.reduceLeDiff, Nat.reduceLT, Nat.reduceEqDiff, Nat.reduceBEq, Int.reduceToNat, Int.reduceNeg, Int.reduceEq, Int.reduceNe, Int.reduceLE, Int.reduceLT, reduceCtorEq, ↓reduceIte]
  refine cond_split (fun hc => ?_) (fun hc => ?_)
  · simp only [decide_eq_true_eq] at hc
    obtain ⟨x, hx⟩ := get_ex (l := l) (i := i) (by omega)
    have okx := ok x (List.mem_of_getElem? hx)
    rw [drop_at hx, bucG] at h2
    have hcl := cels_len hH.len
    have r0 : ∀ B : Go.Vx.Rows, Go.Vx.rowAt (T ++ B) T.length = Go.Vx.rowAt B 0 := fun B => rowAt_app (by omega)
    have s0 : ∀ (B : Go.Vx.Rows) (r : RowS), setAt (T ++ B) T.length r = T ++ setAt B 0 r := fun B r => setAt_app (by omega)
    have r1 : ∀ B : Go.Vx.Rows, Go.Vx.rowAt (T ++ B) (T.length + 1) = Go.Vx.rowAt B 1 := fun B => rowAt_app (by omega)
    have s1 : ∀ (B : Go.Vx.Rows) (r : RowS), setAt (T ++ B) (T.length + 1) r = T ++ setAt B 1 r := fun B r => setAt_app (by omega)
    have r2 : ∀ B : Go.Vx.Rows, Go.Vx.rowAt (T ++ B) (T.length + 2) = Go.Vx.rowAt B 2 := fun B => rowAt_app (by omega)
    have s2 : ∀ (B : Go.Vx.Rows) (r : RowS), setAt (T ++ B) (T.length + 2) r = T ++ setAt B 2 r := fun B r => setAt_app (by omega)
    have r3 : ∀ B : Go.Vx.Rows, Go.Vx.rowAt (T ++ B) (T.length + 3) = Go.Vx.rowAt B 3 := fun B => rowAt_app (by omega)
    have s3 : ∀ (B : Go.Vx.Rows) (r : RowS), setAt (T ++ B) (T.length + 3) r = T ++ setAt B 3 r := fun B r => setAt_app (by omega)
    have r4 : ∀ B : Go.Vx.Rows, Go.Vx.rowAt (T ++ B) (T.length + 4) = Go.Vx.rowAt B 4 := fun B => rowAt_app (by omega)
    have s4 : ∀ (B : Go.Vx.Rows) (r : RowS), setAt (T ++ B) (T.length + 4) r = T ++ setAt B 4 r := fun B r => setAt_app (by omega)
    simp only [vx, vz, Nat.reduceAdd, Nat.reduceSub, Nat.reduceMul, Nat.reduceLeDiff, Nat.reduceLT, Nat.reduceEqDiff, Nat.reduceBEq, Int.reduceToNat, Int.reduceNeg, Int.reduceEq, Int.reduceNe, Int.reduceLE, Int.reduceLT, reduceCtorEq, ↓reduceIte]
    refine ⟨by omega, by omega, getM_at hx ?_⟩
    simp only [vx, vz, Nat.reduceAdd, Nat.reduceSub, Nat.reduceMul, Nat.reduceLeDiff, Nat.reduceLT, Nat.reduceEqDiff, Nat.reduceBEq, Int.reduceToNat, Int.reduceNeg, Int.reduceEq, Int.reduceNe, Int.reduceLE, Int.reduceLT, reduceCtorEq, ↓reduceIte]
    simp only [vx, vz, Nat.reduceAdd, Nat.reduceSub, Nat.reduceMul, Nat.reduceLeDiff, Nat.reduceLT, Nat.reduceEqDiff, Nat.reduceBEq, Int.reduceToNat, Int.reduceNeg, Int.reduceEq, Int.reduceNe, Int.reduceLE, Int.reduceLT, reduceCtorEq, ↓reduceIte, Rz.d, r0, r1, s0, s1]
    refine call_p rfl (t33 x okx) ?_
    simp only [vx, vz, Nat.reduceAdd, Nat.reduceSub, Nat.reduceMul, Nat.reduceLeDiff, Nat.reduceLT, Nat.reduceEqDiff, Nat.reduceBEq, Int.reduceToNat, Int.reduceNeg, Int.reduceEq, Int.reduceNe, Int.reduceLE, Int.reduceLT, reduceCtorEq, ↓reduceIte, r0, r1, s0, s1]
    cases hf : fldS x with
    | false =>
      rw [hf, if_neg (by decide)] at h2
      simp only [vx, vz, Nat.reduceAdd, Nat.reduceSub, Nat.reduceMul, Nat.reduceLeDiff, Nat.reduceLT, Nat.reduceEqDiff, Nat.reduceBEq, Int.reduceToNat, Int.reduceNeg, Int.reduceEq, Int.reduceNe, Int.reduceLE, Int.reduceLT, reduceCtorEq, ↓reduceIte]
      refine ls_n (i + 1, bs, hs, T ++ _) (by simp only; omega) (weak_any ?_) ⟨by simp only; omega, h2, hH.more _, by simp only; omega, fun q h => by have := hq q h; simp only; omega⟩
      simp only [vx, vz, Nat.reduceAdd, Nat.reduceSub, Nat.reduceMul, Nat.reduceLeDiff, Nat.reduceLT, Nat.reduceEqDiff, Nat.reduceBEq, Int.reduceToNat, Int.reduceNeg, Int.reduceEq, Int.reduceNe, Int.reduceLE, Int.reduceLT, reduceCtorEq, ↓reduceIte]
      rw [wr_i64 (by omega) (by omega)]
      first | trivial | exact ⟨rfl, rfl⟩
    | true =>
      rw [hf, if_pos rfl] at h2
      simp only [vx, vz, Nat.reduceAdd, Nat.reduceSub, Nat.reduceMul, Nat.reduceLeDiff, Nat.reduceLT, Nat.reduceEqDiff, Nat.reduceBEq, Int.reduceToNat, Int.reduceNeg, Int.reduceEq, Int.reduceNe, Int.reduceLE, Int.reduceLT, reduceCtorEq, ↓reduceIte, r0, r1, s0, s1]
      refine call_p rfl (t36 x.sg okx.2.2 (fld_div hf)) ?_
      simp only [vx, vz, Nat.reduceAdd, Nat.reduceSub, Nat.reduceMul, Nat.reduceLeDiff, Nat.reduceLT, Nat.reduceEqDiff, Nat.reduceBEq, Int.reduceToNat, Int.reduceNeg, Int.reduceEq, Int.reduceNe, Int.reduceLE, Int.reduceLT, reduceCtorEq, ↓reduceIte, r0, r1, s0, s1]
      rcases key_find (srtS x.sg) bs 0 (.int .i64 0) [(i : Int)] with ⟨j, p, k1, k2, k3, k4, k5⟩ | ⟨k1, k2, k3, k4⟩
      · have hj := (List.getElem?_eq_some_iff.1 k1).1
        obtain ⟨h, hh⟩ := get_ex (l := hs) (i := j) (by rw [hH.len]; exact hj)
        have hrow := hH.row j h p hh k1
        have rh : ∀ B : Go.Vx.Rows, Go.Vx.rowAt (T ++ B) h = rowB1 p := fun B => rowAt_get hrow
        have sh : ∀ (B : Go.Vx.Rows) (r : RowS), setAt (T ++ B) h r = T.set h r ++ B := fun B r => setAt_get hrow
        have hpl := hq p (List.mem_of_getElem? k1)
        simp only [vx, vz, Nat.reduceAdd, Nat.reduceSub, Nat.reduceMul, Nat.reduceLeDiff, Nat.reduceLT, Nat.reduceEqDiff, Nat.reduceBEq, Int.reduceToNat, Int.reduceNeg, Int.reduceEq, Int.reduceNe, Int.reduceLE, Int.reduceLT, reduceCtorEq, ↓reduceIte, k4, k5, hcl, r0, r1, r2, r3, r4, s0, s1, s2, s3, s4, List.append_assoc]
        refine ⟨by omega, by omega, getA_iff.2 ⟨_, cels_at hh k1, ?_⟩⟩
        simp only [vx, vz, Nat.reduceAdd, Nat.reduceSub, Nat.reduceMul, Nat.reduceLeDiff, Nat.reduceLT, Nat.reduceEqDiff, Nat.reduceBEq, Int.reduceToNat, Int.reduceNeg, Int.reduceEq, Int.reduceNe, Int.reduceLE, Int.reduceLT, reduceCtorEq, ↓reduceIte, cel, rh, sh, rowB1, hcl, r0, r1, r2, r3, r4, s0, s1, s2, s3, s4, List.append_assoc]
        refine ⟨by unfold maxBytes; omega, by omega, by omega, getA_iff.2 ⟨_, cels_at hh k1, ?_⟩⟩
        simp only [vx, vz, Nat.reduceAdd, Nat.reduceSub, Nat.reduceMul, Nat.reduceLeDiff, Nat.reduceLT, Nat.reduceEqDiff, Nat.reduceBEq, Int.reduceToNat, Int.reduceNeg, Int.reduceEq, Int.reduceNe, Int.reduceLE, Int.reduceLT, reduceCtorEq, ↓reduceIte, cel, rh, sh, hcl, r0, r1, r2, r3, r4, s0, s1, s2, s3, s4, List.append_assoc]
        have hins : insB (srtS x.sg) (i : Int) bs = bs.set j (p.1, p.2 ++ [(i : Int)]) := by rw [ins_old k1 k2 k3, k2]
        rw [hins] at h2
        have e1 := key_set (x := p.2 ++ [(i : Int)]) k1 0
        have e2 := cels_set (q := (p.1, p.2 ++ [(i : Int)])) hh hH.len
        have e3 : rowB1 (p.1, p.2 ++ [(i : Int)]) = .live 1 (((p.2.map iD).map (·.map .d)) ++ [[.d (.int .i64 (i : Int))]]) := by simp [rowB1, iD]
        have e4 : (p.1, p.2 ++ [(i : Int)]).2.length = p.2.length + 1 := by simp
        rw [e4] at e2
        refine ls_n (i + 1, bs.set j (p.1, p.2 ++ [(i : Int)]), hs, T.set h (rowB1 (p.1, p.2 ++ [(i : Int)])) ++ ?B) (by simp only; omega) ?w ⟨by simp only; omega, h2, hH.old hh k1 _, by simp only [List.length_set]; omega, fun q h => ?_⟩
        case w =>
          simp only [e1, ← e2, e3, List.length_set]
          refine weak_any ?_
          simp only [vx, vz, Nat.reduceAdd, Nat.reduceSub, Nat.reduceMul, Nat.reduceLeDiff, Nat.reduceLT, Nat.reduceEqDiff, Nat.reduceBEq, Int.reduceToNat, Int.reduceNeg, Int.reduceEq, Int.reduceNe, Int.reduceLE, Int.reduceLT, reduceCtorEq, ↓reduceIte, cel]
          rw [wr_i64 (by omega) (by omega)]
          first | trivial | exact ⟨rfl, rfl⟩
        · simp only at h ⊢
          rcases List.mem_or_eq_of_mem_set h with h | rfl
          · have := hq q h; omega
          · simp only [List.length_append, List.length_cons, List.length_nil]; omega
      · simp only [vx, vz, Nat.reduceAdd, Nat.reduceSub, Nat.reduceMul, Nat.reduceLeDiff, Nat.reduceLT, Nat.reduceEqDiff, Nat.reduceBEq, Int.reduceToNat, Int.reduceNeg, Int.reduceEq, Int.reduceNe, Int.reduceLE, Int.reduceLT, reduceCtorEq, ↓reduceIte, k2, k3, hcl, r0, r1, r2, r3, r4, s0, s1, s2, s3, s4, List.append_assoc]
        refine call_p rfl (t36 x.sg okx.2.2 (fld_div hf)) ?_
        simp only [vx, vz, Nat.reduceAdd, Nat.reduceSub, Nat.reduceMul, Nat.reduceLeDiff, Nat.reduceLT, Nat.reduceEqDiff, Nat.reduceBEq, Int.reduceToNat, Int.reduceNeg, Int.reduceEq, Int.reduceNe, Int.reduceLE, Int.reduceLT, reduceCtorEq, ↓reduceIte, hcl, r0, r1, r2, r3, r4, s0, s1, s2, s3, s4, List.append_assoc]
        refine ⟨by unfold maxBytes; omega, by omega, by omega, getA_iff.2 ⟨[.d .nils], by rw [List.getElem?_append_right (by omega), hcl, Nat.sub_self]; rfl, ?_⟩⟩
        simp only [vx, vz, Nat.reduceAdd, Nat.reduceSub, Nat.reduceMul, Nat.reduceLeDiff, Nat.reduceLT, Nat.reduceEqDiff, Nat.reduceBEq, Int.reduceToNat, Int.reduceNeg, Int.reduceEq, Int.reduceNe, Int.reduceLE, Int.reduceLT, reduceCtorEq, ↓reduceIte, hcl, r0, r1, r2, r3, r4, s0, s1, s2, s3, s4, List.append_assoc]
        refine ⟨by unfold maxBytes; omega, by omega, by omega, getA_iff.2 ⟨[.d .nils], by rw [List.getElem?_append_right (by omega), hcl, Nat.sub_self]; rfl, ?_⟩⟩
        simp only [vx, vz, Nat.reduceAdd, Nat.reduceSub, Nat.reduceMul, Nat.reduceLeDiff, Nat.reduceLT, Nat.reduceEqDiff, Nat.reduceBEq, Int.reduceToNat, Int.reduceNeg, Int.reduceEq, Int.reduceNe, Int.reduceLE, Int.reduceLT, reduceCtorEq, ↓reduceIte, hcl, r0, r1, r2, r3, r4, s0, s1, s2, s3, s4, List.append_assoc]
        have hins := ins_new (i := (i : Int)) k1
        rw [hins] at h2
        have hset : (cels hs bs ++ [[V.d D.nils]]).set bs.length [V.osl 1 (T.length + 6) 1 0 1] = cels (hs ++ [T.length + 4]) (bs ++ [(srtS x.sg, [(i : Int)])]) := by
          rw [cels_snoc hH.len, List.set_append_right _ _ (by omega), hcl, Nat.sub_self]; rfl
        rw [Nat.zero_add] at k4
        refine ls_n (i + 1, bs ++ [(srtS x.sg, [(i : Int)])], hs ++ [T.length + 4], T ++ ?B2) (by simp only; omega) ?w ⟨by simp only; omega, h2, hH.new (by omega) ?_, by simp only [List.length_append, List.length_cons, List.length_nil]; omega, fun q h => ?_⟩
        case w =>
          simp only [← k4, ← hset, List.length_append, List.length_cons, List.length_nil]
          refine weak_any ?_
          simp only [vx, vz, Nat.reduceAdd, Nat.reduceSub, Nat.reduceMul, Nat.reduceLeDiff, Nat.reduceLT, Nat.reduceEqDiff, Nat.reduceBEq, Int.reduceToNat, Int.reduceNeg, Int.reduceEq, Int.reduceNe, Int.reduceLE, Int.reduceLT, reduceCtorEq, ↓reduceIte]
          rw [wr_i64 (by omega) (by omega)]
          first | trivial | exact ⟨rfl, rfl⟩
        · rw [List.getElem?_append_right (by omega), show T.length + 4 - T.length = 4 by omega]; rfl
        · simp only [List.mem_append, List.mem_cons, List.not_mem_nil, or_false] at h ⊢
          rcases h with h | rfl
          · have := hq q h; omega
          · simp only [List.length_cons, List.length_nil]; omega
  · simp only [decide_eq_false_iff_not] at hc
    rw [drop_end (by omega), bucG] at h2
    simp only [vx, vz, Nat.reduceAdd, Nat.reduceSub, Nat.reduceMul, Nat.reduceLeDiff, Nat.reduceLT, Nat.reduceEqDiff, Nat.reduceBEq, Int.reduceToNat, Int.reduceNeg, Int.reduceEq, Int.reduceNe, Int.reduceLE, Int.reduceLT, reduceCtorEq, ↓reduceIte]
    rw [h2]
    exact sn_bk hH 1 rfl
end Go.Proofs.Sg
