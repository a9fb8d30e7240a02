import Derived.Test.YtkoonehfphkmaaaR11
set_option linter.unusedSimpArgs false
set_option linter.unusedVariables false
namespace Go.Proofs.Cr
open Go.Vx
def greS : List Int → List Int → List Int
  | [], _ => []
  | a, [] => a
  | x :: a, y :: b => if x = y then greS a b else greS (x :: a) b
theorem greS_end {a : List Int} : greS a [] = a := by cases a <;> rfl
theorem greS_nil {b : List Int} : greS [] b = [] := by cases b <;> rfl
theorem gre_sub {a b : List Int} (h : a.Sublist b) : greS a b = [] := by
  induction b generalizing a with
  | nil => rw [List.sublist_nil.1 h]; rfl
  | cons y b ih =>
    cases a with
    | nil => rfl
    | cons x a =>
      rw [greS]
      split
      · refine ih ?_
        cases h with
        | cons _ h => exact (List.sublist_cons_self x a).trans h
        | cons_cons _ h => exact h
      · next hne =>
        refine ih ?_
        cases h with
        | cons _ h => exact h
        | cons_cons _ h => exact absurd rfl hne
theorem filter_sub {α : Type} {p q : α → Bool} {l : List α} (h : ∀ x, p x = true → q x = true) : (l.filter p).Sublist (l.filter q) := by
  induction l with
  | nil => exact List.Sublist.refl _
  | cons x l ih =>
    rw [List.filter_cons, List.filter_cons]
    split
    · next hp => rw [if_pos (h x hp)]; exact ih.cons_cons x
    · split
      · exact ih.cons x
      · exact ih
def nxS (q : Int) (y : Int) (hit : List (List Int)) : List (List Int) := hit.mapIdx fun k x => if (k : Int) = q then x ++ [y] else x
theorem nx_len {q y : Int} {hit : List (List Int)} : (nxS q y hit).length = hit.length := by simp [nxS]
theorem nx_at {q y : Int} {hit : List (List Int)} {k : Nat} {x : List Int} (h : hit[k]? = some x) : (nxS q y hit)[k]? = some (if (k : Int) = q then x ++ [y] else x) := by
  simp [nxS, List.getElem?_mapIdx, h]
theorem has_mono {q y : Int} {hit : List (List Int)} {p b : Int} (h : hasS (hitAt hit p) b = true) : hasS (hitAt (nxS q y hit) p) b = true := by
  rw [hitAt] at h ⊢
  cases hx : hit[p.toNat]? with
  | none => rw [hx] at h; cases h
  | some x =>
    rw [hx] at h
    rw [nx_at hx]
    simp only [Option.getD_some] at h ⊢
    split
    · rw [hasS, List.any_append]; rw [hasS] at h; rw [h]; rfl
    · exact h
theorem all_mono {q y : Int} {hit : List (List Int)} {ps bs : List Int} (h : allH hit ps bs = true) : allH (nxS q y hit) ps bs = true := by
  induction ps generalizing bs with
  | nil => exact allH_nil
  | cons p ps ih => cases bs with
    | nil => rfl
    | cons b bs =>
      rw [allH, Bool.and_eq_true] at h ⊢
      exact ⟨has_mono h.1, ih h.2⟩
theorem hits_sub {m : Md} {i : Int} {q y : Int} {hit : List (List Int)} : (hitsS m i hit).Sublist (hitsS m i (nxS q y hit)) := by
  rw [hits_ref, hits_ref]
  rw [refS, refS]
  cases crOf m i with
  | none => exact List.Sublist.refl _
  | some c =>
    simp only [nx_len]
    split
    · refine List.Sublist.map _ (filter_sub fun k hk => ?_)
      rw [okK, Bool.and_eq_true] at hk ⊢
      exact ⟨hk.1, all_mono hk.2⟩
    · exact List.Sublist.refl _
theorem te_two {n : Nat} {ys : List D} (h : TyE Try.prog n 42 ys) : ∃ p : Int × Int, ys = [.int .i64 p.1, .int .i64 p.2] ∧ True := by
  obtain ⟨k, hl, hx⟩ := te_array Try.underlying42 h
  match ys, hl with
  | [a, b], _ =>
    obtain ⟨x, e1, _⟩ := te_int Try.underlying3 (hx a (by simp))
    obtain ⟨y, e2, _⟩ := te_int Try.underlying3 (hx b (by simp))
    cases e1; cases e2
    exact ⟨(x, y), rfl, trivial⟩
theorem l7 (m : Md) (i : Int) (hit : List (List Int)) (q y : Int) (ok : okM m) (okh : okH hit) : CallP Try.prog 7 [mdV m, .d (.int .i64 i), llV hit, .agg [.d (.int .i64 q), .d (.int .i64 y)]] (.d (.bool true)) := by
  have hm := hm
  have hml := ok.1
  have hml2 := ok.2.1
  have hhl := okh.1
  refine go7 ac7 rfl ?_
  simp only [vx, vz, Nat.reduceAdd, Nat.reduceSub, Nat.reduceMul, Nat.reduceLeDiff, Nat.reduceLT, Nat.reduceEqDiff, Nat.reduceBEq, Int.reduceToNat, Int.reduceNeg, Int.reduceEq, Int.reduceNe, Int.reduceLE, Int.reduceLT, reduceCtorEq, ↓reduceIte, ac7]
  refine call_p rfl (t9 m ok) ?_
  simp only [vx, vz, Nat.reduceAdd, Nat.reduceSub, Nat.reduceMul, Nat.reduceLeDiff, Nat.reduceLT, Nat.reduceEqDiff, Nat.reduceBEq, Int.reduceToNat, Int.reduceNeg, Int.reduceEq, Int.reduceNe, Int.reduceLE, Int.reduceLT, reduceCtorEq, ↓reduceIte]
  cases hf : fewS m with
  | false =>
    simp only [vx, vz, Nat.reduceAdd, Nat.reduceSub, Nat.reduceMul, Nat.reduceLeDiff, Nat.reduceLT, Nat.reduceEqDiff, Nat.reduceBEq, Int.reduceToNat, Int.reduceNeg, Int.reduceEq, Int.reduceNe, Int.reduceLE, Int.reduceLT, reduceCtorEq, ↓reduceIte]
    refine call_p rfl (t10) ?_
    simp only [vx, vz, Nat.reduceAdd, Nat.reduceSub, Nat.reduceMul, Nat.reduceLeDiff, Nat.reduceLT, Nat.reduceEqDiff, Nat.reduceBEq, Int.reduceToNat, Int.reduceNeg, Int.reduceEq, Int.reduceNe, Int.reduceLE, Int.reduceLT, reduceCtorEq, ↓reduceIte]
  | true =>
    have h := few_sm hf ok i
    simp only [vx, vz, Nat.reduceAdd, Nat.reduceSub, Nat.reduceMul, Nat.reduceLeDiff, Nat.reduceLT, Nat.reduceEqDiff, Nat.reduceBEq, Int.reduceToNat, Int.reduceNeg, Int.reduceEq, Int.reduceNe, Int.reduceLE, Int.reduceLT, reduceCtorEq, ↓reduceIte]
    refine call_p rfl (t20 hit okh) ?_
    simp only [vx, vz, Nat.reduceAdd, Nat.reduceSub, Nat.reduceMul, Nat.reduceLeDiff, Nat.reduceLT, Nat.reduceEqDiff, Nat.reduceBEq, Int.reduceToNat, Int.reduceNeg, Int.reduceEq, Int.reduceNe, Int.reduceLE, Int.reduceLT, reduceCtorEq, ↓reduceIte]
    cases hs : shortS hit with
    | false =>
      simp only [vx, vz, Nat.reduceAdd, Nat.reduceSub, Nat.reduceMul, Nat.reduceLeDiff, Nat.reduceLT, Nat.reduceEqDiff, Nat.reduceBEq, Int.reduceToNat, Int.reduceNeg, Int.reduceEq, Int.reduceNe, Int.reduceLE, Int.reduceLT, reduceCtorEq, ↓reduceIte]
      refine call_p rfl (t10) ?_
      simp only [vx, vz, Nat.reduceAdd, Nat.reduceSub, Nat.reduceMul, Nat.reduceLeDiff, Nat.reduceLT, Nat.reduceEqDiff, Nat.reduceBEq, Int.reduceToNat, Int.reduceNeg, Int.reduceEq, Int.reduceNe, Int.reduceLE, Int.reduceLT, reduceCtorEq, ↓reduceIte]
    | true =>
      have hss := shortS_ok hs
      by_cases h1 : q < 0
      · simp only [vx, vz, Nat.reduceAdd, Nat.reduceSub, Nat.reduceMul, Nat.reduceLeDiff, Nat.reduceLT, Nat.reduceEqDiff, Nat.reduceBEq, Int.reduceToNat, Int.reduceNeg, Int.reduceEq, Int.reduceNe, Int.reduceLE, Int.reduceLT, reduceCtorEq, ↓reduceIte, dt h1]
        refine call_p rfl (t10) ?_
        simp only [vx, vz, Nat.reduceAdd, Nat.reduceSub, Nat.reduceMul, Nat.reduceLeDiff, Nat.reduceLT, Nat.reduceEqDiff, Nat.reduceBEq, Int.reduceToNat, Int.reduceNeg, Int.reduceEq, Int.reduceNe, Int.reduceLE, Int.reduceLT, reduceCtorEq, ↓reduceIte]
      by_cases h2 : (hit.length : Int) ≤ q
      · simp only [vx, vz, Nat.reduceAdd, Nat.reduceSub, Nat.reduceMul, Nat.reduceLeDiff, Nat.reduceLT, Nat.reduceEqDiff, Nat.reduceBEq, Int.reduceToNat, Int.reduceNeg, Int.reduceEq, Int.reduceNe, Int.reduceLE, Int.reduceLT, reduceCtorEq, ↓reduceIte, df h1, dt h2]
        refine call_p rfl (t10) ?_
        simp only [vx, vz, Nat.reduceAdd, Nat.reduceSub, Nat.reduceMul, Nat.reduceLeDiff, Nat.reduceLT, Nat.reduceEqDiff, Nat.reduceBEq, Int.reduceToNat, Int.reduceNeg, Int.reduceEq, Int.reduceNe, Int.reduceLE, Int.reduceLT, reduceCtorEq, ↓reduceIte]
      simp only [vx, vz, Nat.reduceAdd, Nat.reduceSub, Nat.reduceMul, Nat.reduceLeDiff, Nat.reduceLT, Nat.reduceEqDiff, Nat.reduceBEq, Int.reduceToNat, Int.reduceNeg, Int.reduceEq, Int.reduceNe, Int.reduceLE, Int.reduceLT, reduceCtorEq, ↓reduceIte, df h1, df h2]
      have hqn : q < hit.length := by omega
      have hxx : ∃ nx : List (List Int), nx = nxS q y hit := ⟨_, rfl⟩
      obtain ⟨nx, hnx⟩ := hxx
      have hnl : nx.length = hit.length := by rw [hnx, nx_len]
      refine loop_st (fun k : Nat => if k < hit.length then ⟨mkF 100 [(1, .d (.int .i64 i)), (2, llV hit), (4, .optr 2 0 1 0 0), (7, .optr 2 1 1 0 0), (9, .osl 1 2 k 0 k), (10, .d (.int .i64 k))], [.live 2 [[.d (.sl 6 (m.1.map ptD)), .d (.sl 3 (m.2.map crD))]], .live 2 [[.d (.int .i64 q), .d (.int .i64 y)]], .live 1 (((nx.take k).map lD).map (·.map .d))]⟩ else ⟨mkF 100 [(1, .d (.int .i64 i)), (2, llV hit), (4, .optr 2 0 1 0 0), (7, .optr 2 1 1 0 0), (9, llV nx), (10, .d (.int .i64 k))], [.live 2 [[.d (.sl 6 (m.1.map ptD)), .d (.sl 3 (m.2.map crD))]], .live 2 [[.d (.int .i64 q), .d (.int .i64 y)]]]⟩) (fun k => k ≤ hit.length) (fun k => hit.length - k) 0 (by
        rw [if_pos (by omega)]
        exact Weak.trans (weak_nils 9 1 rfl) (weak_any (by simp only [vx, vz, Nat.reduceAdd, Nat.reduceSub, Nat.reduceMul, Nat.reduceLeDiff, Nat.reduceLT, Nat.reduceEqDiff, Nat.reduceBEq, Int.reduceToNat, Int.reduceNeg, Int.reduceEq, Int.reduceNe, Int.reduceLE, Int.reduceLT, reduceCtorEq, ↓reduceIte]; try trivial))) (by omega) (fun k hk => ?_)
      have hkl : (nx.take k).length = k := by rw [List.length_take]; omega
      by_cases hkk : k < hit.length
      · rw [if_pos hkk]
        obtain ⟨x, hx⟩ := get_ex (l := hit) (i := k) (by omega)
        have hn := nx_at (q := q) (y := y) hx
        have hxl := hss.2 x (List.mem_of_getElem? hx)
        have htk : ∀ z, nx[k]? = some z → (nx.take (k + 1)).map lD = (nx.take k).map lD ++ [lD z] := fun z hz => by
          obtain ⟨h8, h9⟩ := List.getElem?_eq_some_iff.1 hz
          rw [List.take_succ_eq_append_getElem h8, h9, List.map_append]; rfl
        have hlast : ∀ S : St, Weak 0 S ⟨mkF 100 [(1, .d (.int .i64 i)), (2, llV hit), (4, .optr 2 0 1 0 0), (7, .optr 2 1 1 0 0), (9, .osl 1 2 (k + 1) 0 (k + 1)), (10, .d (.int .i64 (k + 1 : Nat)))], [.live 2 [[.d (.sl 6 (m.1.map ptD)), .d (.sl 3 (m.2.map crD))]], .live 2 [[.d (.int .i64 q), .d (.int .i64 y)]], .live 1 (((nx.take (k + 1)).map lD).map (·.map .d))]⟩ → Weak 0 S (if k + 1 < hit.length then ⟨mkF 100 [(1, .d (.int .i64 i)), (2, llV hit), (4, .optr 2 0 1 0 0), (7, .optr 2 1 1 0 0), (9, .osl 1 2 (k + 1) 0 (k + 1)), (10, .d (.int .i64 (k + 1 : Nat)))], [.live 2 [[.d (.sl 6 (m.1.map ptD)), .d (.sl 3 (m.2.map crD))]], .live 2 [[.d (.int .i64 q), .d (.int .i64 y)]], .live 1 (((nx.take (k + 1)).map lD).map (·.map .d))]⟩ else ⟨mkF 100 [(1, .d (.int .i64 i)), (2, llV hit), (4, .optr 2 0 1 0 0), (7, .optr 2 1 1 0 0), (9, llV nx), (10, .d (.int .i64 (k + 1 : Nat)))], [.live 2 [[.d (.sl 6 (m.1.map ptD)), .d (.sl 3 (m.2.map crD))]], .live 2 [[.d (.int .i64 q), .d (.int .i64 y)]]]⟩) := fun S hS => by
          split
          · exact hS
          · refine Weak.trans hS ?_
            rw [List.take_of_length_le (by omega)]
            exact weak_frz2 2 (by omega) ⟨.same _ (by simp [rowB, hB]), .same _ (by simp [rowB, hB]), trivial⟩ (kpL_set (i := 9) rfl (sn_ll rfl (by omega)) rfl)
        simp only [vx, vz, Nat.reduceAdd, Nat.reduceSub, Nat.reduceMul, Nat.reduceLeDiff, Nat.reduceLT, Nat.reduceEqDiff, Nat.reduceBEq, Int.reduceToNat, Int.reduceNeg, Int.reduceEq, Int.reduceNe, Int.reduceLE, Int.reduceLT, reduceCtorEq, ↓reduceIte, dt (show (k : Int) < hit.length by omega)]
        refine ⟨by omega, by omega, getM_at hx ?_⟩
        simp only [vx, vz, Nat.reduceAdd, Nat.reduceSub, Nat.reduceMul, Nat.reduceLeDiff, Nat.reduceLT, Nat.reduceEqDiff, Nat.reduceBEq, Int.reduceToNat, Int.reduceNeg, Int.reduceEq, Int.reduceNe, Int.reduceLE, Int.reduceLT, reduceCtorEq, ↓reduceIte]
        simp only [vx, vz, Nat.reduceAdd, Nat.reduceSub, Nat.reduceMul, Nat.reduceLeDiff, Nat.reduceLT, Nat.reduceEqDiff, Nat.reduceBEq, Int.reduceToNat, Int.reduceNeg, Int.reduceEq, Int.reduceNe, Int.reduceLE, Int.reduceLT, reduceCtorEq, ↓reduceIte, lD]
        refine ⟨by unfold maxBytes; omega, ?_⟩
        refine cond_split (fun hc2 => ?_) (fun hc2 => ?_)
        · have hc2 : (k : Int) = q := by simpa using hc2
          rw [if_pos hc2, ← hnx] at hn
          simp only [vx, vz, Nat.reduceAdd, Nat.reduceSub, Nat.reduceMul, Nat.reduceLeDiff, Nat.reduceLT, Nat.reduceEqDiff, Nat.reduceBEq, Int.reduceToNat, Int.reduceNeg, Int.reduceEq, Int.reduceNe, Int.reduceLE, Int.reduceLT, reduceCtorEq, ↓reduceIte]
          refine ⟨by unfold maxBytes; omega, hkl, by unfold maxBytes; omega, ?_⟩
          refine ls_n (k + 1) (by omega) (hlast _ (Weak.trans (weak_any ?_) (weak_frz2 3 (by omega) ⟨.same _ (by simp [rowB, hB]), .same _ (by simp [rowB, hB]), ?_, trivial⟩ (kpL_refl ?_)))) (by omega)
          · simp only [vx, vz, Nat.reduceAdd, Nat.reduceSub, Nat.reduceMul, Nat.reduceLeDiff, Nat.reduceLT, Nat.reduceEqDiff, Nat.reduceBEq, Int.reduceToNat, Int.reduceNeg, Int.reduceEq, Int.reduceNe, Int.reduceLE, Int.reduceLT, reduceCtorEq, ↓reduceIte]
            rw [wr_i64 (by omega) (by omega)]
            trivial
          · show RowK 3 _ _ (.live 1 (((nx.take (k + 1)).map lD).map (·.map .d)))
            rw [htk _ hn]
            refine rowK_snoc (e := [.osl 1 3 (x.length + 1) 0 (x.length + 1)]) (x := lD (x ++ [y])) ⟨.snap _ _ ?_, trivial⟩
            exact sn_osl (es := (x ++ [y]).map iD) (by simp only [Go.Vx.rowAt, List.map_append]; rfl) (by simp) (by omega) (fun e he => by obtain ⟨t, _, rfl⟩ := List.mem_map.1 he; rfl) (by rw [List.drop_zero, List.take_of_length_le (by simp)])
          · rfl
        · have hc2 : ¬ (k : Int) = q := by simpa using hc2
          rw [if_neg hc2, ← hnx] at hn
          simp only [vx, vz, Nat.reduceAdd, Nat.reduceSub, Nat.reduceMul, Nat.reduceLeDiff, Nat.reduceLT, Nat.reduceEqDiff, Nat.reduceBEq, Int.reduceToNat, Int.reduceNeg, Int.reduceEq, Int.reduceNe, Int.reduceLE, Int.reduceLT, reduceCtorEq, ↓reduceIte]
          refine ⟨hkl, by unfold maxBytes; omega, ?_⟩
          refine ls_n (k + 1) (by omega) (hlast _ (Weak.trans (weak_any ?_) (weak_frz2 3 (by omega) ⟨.same _ (by simp [rowB, hB]), .same _ (by simp [rowB, hB]), ?_, trivial⟩ (kpL_refl ?_)))) (by omega)
          · simp only [vx, vz, Nat.reduceAdd, Nat.reduceSub, Nat.reduceMul, Nat.reduceLeDiff, Nat.reduceLT, Nat.reduceEqDiff, Nat.reduceBEq, Int.reduceToNat, Int.reduceNeg, Int.reduceEq, Int.reduceNe, Int.reduceLE, Int.reduceLT, reduceCtorEq, ↓reduceIte]
            rw [wr_i64 (by omega) (by omega)]
            trivial
          · show RowK 3 _ _ (.live 1 (((nx.take (k + 1)).map lD).map (·.map .d)))
            rw [htk _ hn]
            refine rowK_snoc (e := [.osl 1 3 x.length 0 x.length]) (x := lD x) ⟨.snap _ _ ?_, trivial⟩
            exact sn_osl (es := x.map iD) rfl (by simp) (by omega) (fun e he => by obtain ⟨t, _, rfl⟩ := List.mem_map.1 he; rfl) (by rw [List.drop_zero, List.take_of_length_le (by simp)])
          · rfl
      · rw [if_neg hkk]
        have oknx : okH nx := by
          have := mL500
          refine ⟨by omega, fun z hz => ?_⟩
          obtain ⟨k, hk, rfl⟩ := List.getElem_of_mem hz
          obtain ⟨x, hx⟩ := get_ex (l := hit) (i := k) (by omega)
          have hn := nx_at (q := q) (y := y) hx
          rw [← hnx, List.getElem?_eq_getElem hk] at hn
          injection hn with hn
          have hxl := hss.2 x (List.mem_of_getElem? hx)
          rw [hn]
          split
          · simp; omega
          · omega
        have hsub := gre_sub (hits_sub (m := m) (i := i) (q := q) (y := y) (hit := hit))
        rw [← hnx] at hsub
        have hal := refS_len (hit := hit) (szS_few hf i)
        have hbl := refS_len (hit := nx) (szS_few hf i)
        rw [← hits_ref] at hal hbl
        have ha := t21 m i hit h okh
        have hb := t21 m i nx h oknx
        generalize hitsS m i hit = a at ha hal hsub
        generalize hitsS m i nx = b at hb hbl hsub
        have := mL500
        simp only [vx, vz, Nat.reduceAdd, Nat.reduceSub, Nat.reduceMul, Nat.reduceLeDiff, Nat.reduceLT, Nat.reduceEqDiff, Nat.reduceBEq, Int.reduceToNat, Int.reduceNeg, Int.reduceEq, Int.reduceNe, Int.reduceLE, Int.reduceLT, reduceCtorEq, ↓reduceIte, df (show ¬ (k : Int) < hit.length by omega)]
        refine c_quiet rfl ?_
        simp only [vx, vz, Nat.reduceAdd, Nat.reduceSub, Nat.reduceMul, Nat.reduceLeDiff, Nat.reduceLT, Nat.reduceEqDiff, Nat.reduceBEq, Int.reduceToNat, Int.reduceNeg, Int.reduceEq, Int.reduceNe, Int.reduceLE, Int.reduceLT, reduceCtorEq, ↓reduceIte]
        refine call_p rfl (ha) ?_
        simp only [vx, vz, Nat.reduceAdd, Nat.reduceSub, Nat.reduceMul, Nat.reduceLeDiff, Nat.reduceLT, Nat.reduceEqDiff, Nat.reduceBEq, Int.reduceToNat, Int.reduceNeg, Int.reduceEq, Int.reduceNe, Int.reduceLE, Int.reduceLT, reduceCtorEq, ↓reduceIte]
        refine call_p rfl (hb) ?_
        simp only [vx, vz, Nat.reduceAdd, Nat.reduceSub, Nat.reduceMul, Nat.reduceLeDiff, Nat.reduceLT, Nat.reduceEqDiff, Nat.reduceBEq, Int.reduceToNat, Int.reduceNeg, Int.reduceEq, Int.reduceNe, Int.reduceLE, Int.reduceLT, reduceCtorEq, ↓reduceIte]
        refine loop_st (fun s : Nat × Nat => ⟨mkF 100 [(12, isV a), (13, isV b), (14, .d (.int .i64 s.2)), (15, .d (.int .i64 s.1))], [.live 2 [[.d (.sl 6 (m.1.map ptD)), .d (.sl 3 (m.2.map crD))]], .live 2 [[.d (.int .i64 q), .d (.int .i64 y)]]]⟩) (fun s => s.1 ≤ b.length ∧ s.2 ≤ a.length ∧ greS (a.drop s.2) (b.drop s.1) = []) (fun s => b.length - s.1) (0, 0) (weak_any (by simp only [vx, vz, Nat.reduceAdd, Nat.reduceSub, Nat.reduceMul, Nat.reduceLeDiff, Nat.reduceLT, Nat.reduceEqDiff, Nat.reduceBEq, Int.reduceToNat, Int.reduceNeg, Int.reduceEq, Int.reduceNe, Int.reduceLE, Int.reduceLT, reduceCtorEq, ↓reduceIte]; try trivial)) ⟨by simp, by simp, by simpa using hsub⟩ (fun s hs => ?_)
        obtain ⟨j, t⟩ := s
        obtain ⟨h5, h6, h7⟩ := hs
        simp only at h5 h6 h7
        simp only [vx, vz, Nat.reduceAdd, Nat.reduceSub, Nat.reduceMul, Nat.reduceLeDiff, Nat.reduceLT, Nat.reduceEqDiff, Nat.reduceBEq, Int.reduceToNat, Int.reduceNeg, Int.reduceEq, Int.reduceNe, Int.reduceLE, Int.reduceLT, reduceCtorEq, ↓reduceIte]
        refine cond_split (fun hc3 => ?_) (fun hc3 => ?_)
        · simp only [decide_eq_true_eq] at hc3
          obtain ⟨w, hw⟩ := get_ex (l := b) (i := j) (by omega)
          rw [drop_at hw] at h7
          simp only [vx, vz, Nat.reduceAdd, Nat.reduceSub, Nat.reduceMul, Nat.reduceLeDiff, Nat.reduceLT, Nat.reduceEqDiff, Nat.reduceBEq, Int.reduceToNat, Int.reduceNeg, Int.reduceEq, Int.reduceNe, Int.reduceLE, Int.reduceLT, reduceCtorEq, ↓reduceIte]
          refine c_quiet rfl ?_
          by_cases ht : t < a.length
          · obtain ⟨v, hv⟩ := get_ex (l := a) (i := t) (by omega)
            rw [drop_at hv, greS] at h7
            simp only [vx, vz, Nat.reduceAdd, Nat.reduceSub, Nat.reduceMul, Nat.reduceLeDiff, Nat.reduceLT, Nat.reduceEqDiff, Nat.reduceBEq, Int.reduceToNat, Int.reduceNeg, Int.reduceEq, Int.reduceNe, Int.reduceLE, Int.reduceLT, reduceCtorEq, ↓reduceIte, dt (show (t : Int) < a.length by omega)]
            refine ⟨by omega, by omega, getM_at hv ?_⟩
            simp only [vx, vz, Nat.reduceAdd, Nat.reduceSub, Nat.reduceMul, Nat.reduceLeDiff, Nat.reduceLT, Nat.reduceEqDiff, Nat.reduceBEq, Int.reduceToNat, Int.reduceNeg, Int.reduceEq, Int.reduceNe, Int.reduceLE, Int.reduceLT, reduceCtorEq, ↓reduceIte]
            simp only [vx, vz, Nat.reduceAdd, Nat.reduceSub, Nat.reduceMul, Nat.reduceLeDiff, Nat.reduceLT, Nat.reduceEqDiff, Nat.reduceBEq, Int.reduceToNat, Int.reduceNeg, Int.reduceEq, Int.reduceNe, Int.reduceLE, Int.reduceLT, reduceCtorEq, ↓reduceIte, iD]
            refine ⟨by omega, by omega, getM_at hw ?_⟩
            simp only [vx, vz, Nat.reduceAdd, Nat.reduceSub, Nat.reduceMul, Nat.reduceLeDiff, Nat.reduceLT, Nat.reduceEqDiff, Nat.reduceBEq, Int.reduceToNat, Int.reduceNeg, Int.reduceEq, Int.reduceNe, Int.reduceLE, Int.reduceLT, reduceCtorEq, ↓reduceIte]
            simp only [vx, vz, Nat.reduceAdd, Nat.reduceSub, Nat.reduceMul, Nat.reduceLeDiff, Nat.reduceLT, Nat.reduceEqDiff, Nat.reduceBEq, Int.reduceToNat, Int.reduceNeg, Int.reduceEq, Int.reduceNe, Int.reduceLE, Int.reduceLT, reduceCtorEq, ↓reduceIte, iD]
            refine cond_split (fun hc4 => ?_) (fun hc4 => ?_)
            · rw [if_pos (by simpa using hc4)] at h7
              simp only [vx, vz, Nat.reduceAdd, Nat.reduceSub, Nat.reduceMul, Nat.reduceLeDiff, Nat.reduceLT, Nat.reduceEqDiff, Nat.reduceBEq, Int.reduceToNat, Int.reduceNeg, Int.reduceEq, Int.reduceNe, Int.reduceLE, Int.reduceLT, reduceCtorEq, ↓reduceIte]
              refine ls_n (j + 1, t + 1) (by simp only; omega) (weak_any ?_) ⟨by simp only; omega, by simp only; omega, h7⟩
              simp only [vx, vz, Nat.reduceAdd, Nat.reduceSub, Nat.reduceMul, Nat.reduceLeDiff, Nat.reduceLT, Nat.reduceEqDiff, Nat.reduceBEq, Int.reduceToNat, Int.reduceNeg, Int.reduceEq, Int.reduceNe, Int.reduceLE, Int.reduceLT, reduceCtorEq, ↓reduceIte]
              rw [wr_i64 (by omega) (by omega), wr_i64 (by omega) (by omega)]
              exact ⟨rfl, rfl⟩
            · rw [if_neg (by simpa using hc4), ← drop_at hv] at h7
              simp only [vx, vz, Nat.reduceAdd, Nat.reduceSub, Nat.reduceMul, Nat.reduceLeDiff, Nat.reduceLT, Nat.reduceEqDiff, Nat.reduceBEq, Int.reduceToNat, Int.reduceNeg, Int.reduceEq, Int.reduceNe, Int.reduceLE, Int.reduceLT, reduceCtorEq, ↓reduceIte]
              refine ls_n (j + 1, t) (by simp only; omega) (weak_any ?_) ⟨by simp only; omega, by simp only; omega, h7⟩
              simp only [vx, vz, Nat.reduceAdd, Nat.reduceSub, Nat.reduceMul, Nat.reduceLeDiff, Nat.reduceLT, Nat.reduceEqDiff, Nat.reduceBEq, Int.reduceToNat, Int.reduceNeg, Int.reduceEq, Int.reduceNe, Int.reduceLE, Int.reduceLT, reduceCtorEq, ↓reduceIte]
              rw [wr_i64 (by omega) (by omega)]
              trivial
          · rw [drop_end (l := a) (by omega), greS_nil] at h7
            simp only [vx, vz, Nat.reduceAdd, Nat.reduceSub, Nat.reduceMul, Nat.reduceLeDiff, Nat.reduceLT, Nat.reduceEqDiff, Nat.reduceBEq, Int.reduceToNat, Int.reduceNeg, Int.reduceEq, Int.reduceNe, Int.reduceLE, Int.reduceLT, reduceCtorEq, ↓reduceIte, df (show ¬ (t : Int) < a.length by omega)]
            refine ls_n (j + 1, t) (by simp only; omega) (weak_any ?_) ⟨by simp only; omega, by simp only; omega, by simp only; rw [drop_end (l := a) (by omega), greS_nil]⟩
            simp only [vx, vz, Nat.reduceAdd, Nat.reduceSub, Nat.reduceMul, Nat.reduceLeDiff, Nat.reduceLT, Nat.reduceEqDiff, Nat.reduceBEq, Int.reduceToNat, Int.reduceNeg, Int.reduceEq, Int.reduceNe, Int.reduceLE, Int.reduceLT, reduceCtorEq, ↓reduceIte]
            rw [wr_i64 (by omega) (by omega)]
            trivial
        · simp only [decide_eq_false_iff_not] at hc3
          rw [drop_end (l := b) (by omega)] at h7
          have : t = a.length := by
            rcases Nat.lt_or_ge t a.length with ht | ht
            · obtain ⟨v, hv⟩ := get_ex (l := a) (i := t) ht
              rw [greS_end, drop_at hv] at h7
              cases h7
            · omega
          subst this
          simp only [vx, vz, Nat.reduceAdd, Nat.reduceSub, Nat.reduceMul, Nat.reduceLeDiff, Nat.reduceLT, Nat.reduceEqDiff, Nat.reduceBEq, Int.reduceToNat, Int.reduceNeg, Int.reduceEq, Int.reduceNe, Int.reduceLE, Int.reduceLT, reduceCtorEq, ↓reduceIte]
          refine call_p rfl (t10) ?_
          simp only [vx, vz, Nat.reduceAdd, Nat.reduceSub, Nat.reduceMul, Nat.reduceLeDiff, Nat.reduceLT, Nat.reduceEqDiff, Nat.reduceBEq, Int.reduceToNat, Int.reduceNeg, Int.reduceEq, Int.reduceNe, Int.reduceLE, Int.reduceLT, reduceCtorEq, ↓reduceIte]
end Go.Proofs.Cr
