import Derived.Test.YtapgahonfifgnaaDoorS10
set_option linter.unusedSimpArgs false
set_option linter.unusedVariables false
namespace Go.Proofs.Sg
open Go.Vx
/-- what is known of the buckets on the way -/
structure Keys (l : List Rz) (bs : List Bk) : Prop where
  nd : ∀ (j m : Nat) (p q : Bk), bs[j]? = some p → bs[m]? = some q → p.1 = q.1 → j = m
  rep : ∀ p ∈ bs, ∃ (x : Nat) (r : Rz) (rest : List Int), p.2 = (x : Int) :: rest ∧ l[x]? = some r ∧ fldS r = true ∧ srtS r.sg = p.1
theorem Keys.old {l : List Rz} {bs : List Bk} (h : Keys l bs) {j : Nat} {p : Bk} (hp : bs[j]? = some p) (i : Int) : Keys l (bs.set j (p.1, p.2 ++ [i])) := by
  have hk : ∀ (m : Nat) (q : Bk), (bs.set j (p.1, p.2 ++ [i]))[m]? = some q → ∃ q', bs[m]? = some q' ∧ q'.1 = q.1 := fun m q hq => by
    rw [List.getElem?_set] at hq
    split at hq
    · next e =>
      subst e
      split at hq
      · injection hq with hq; subst hq; exact ⟨p, hp, rfl⟩
      · cases hq
    · exact ⟨q, hq, rfl⟩
  refine ⟨fun a b q q' h1 h2 h3 => ?_, fun q hq => ?_⟩
  · obtain ⟨x, hx, hx2⟩ := hk a q h1
    obtain ⟨y, hy, hy2⟩ := hk b q' h2
    exact h.nd a b x y hx hy (by rw [hx2, hy2, h3])
  · rcases List.mem_or_eq_of_mem_set hq with hq | rfl
    · exact h.rep q hq
    · obtain ⟨x, r, rest, e1, e2, e3, e4⟩ := h.rep p (List.mem_of_getElem? hp)
      exact ⟨x, r, rest ++ [i], by simp [e1], e2, e3, e4⟩
theorem Keys.new {l : List Rz} {bs : List Bk} (h : Keys l bs) {i : Nat} {r : Rz} (hr : l[i]? = some r) (hf : fldS r = true) (hn : ∀ p ∈ bs, p.1 ≠ srtS r.sg) : Keys l (bs ++ [(srtS r.sg, [(i : Int)])]) := by
  have hk : ∀ (m : Nat) (q : Bk), (bs ++ [(srtS r.sg, [(i : Int)])])[m]? = some q → bs[m]? = some q ∨ (m = bs.length ∧ q = (srtS r.sg, [(i : Int)])) := fun m q hq => by
    rw [List.getElem?_append] at hq
    split at hq
    · exact .inl hq
    · rw [List.getElem?_singleton] at hq
      split at hq
      · injection hq with hq; exact .inr ⟨by omega, hq.symm⟩
      · cases hq
  refine ⟨fun a b q q' h1 h2 h3 => ?_, fun q hq => ?_⟩
  · rcases hk a q h1 with h1 | ⟨h1, e1⟩
    · rcases hk b q' h2 with h2 | ⟨h2, e2⟩
      · exact h.nd a b q q' h1 h2 h3
      · subst e2; exact absurd h3 (hn q (List.mem_of_getElem? h1))
    · rcases hk b q' h2 with h2 | ⟨h2, e2⟩
      · subst e1; exact absurd h3.symm (hn q' (List.mem_of_getElem? h2))
      · omega
  · rcases List.mem_append.1 hq with hq | hq
    · exact h.rep q hq
    · simp at hq; subst hq
      exact ⟨i, r, [], rfl, hr, hf, rfl⟩
theorem t24 (l : List Rz) (hl : l.length ≤ 1000) (ok : ∀ r ∈ l, okR r) : CallP Tryd.prog 24 [rzL l] (.d (.sl 1 ((bucS l).map bkD))) := by
  have hm := hm
  have hL := mL
  refine go24 (AC.at AC.wk [1, 1] ac24) rfl ?_
  simp only [vx, vz, Nat.reduceAdd, Nat.reduceSub, Nat.reduceMul, Nat.reduceLeDiff, Nat.reduceLT, Nat.reduceEqDiff, Nat.reduceBEq, Int.reduceToNat, Int.reduceNeg, Int.reduceEq, Int.reduceNe, Int.reduceLE, Int.reduceLT, reduceCtorEq, ↓reduceIte, ac24, AC.at]
  refine wk_in ⟨mkF 58 [(0, rzL l), (3, .osl 1 1 0 0 0)], [.live 1 [], .live 1 []]⟩ (Weak.trans (weak_nils 2 1 rfl) (Weak.trans (weak_nils 3 1 rfl) (weak_any (by simp only [vx, vz, Nat.reduceAdd, Nat.reduceSub, Nat.reduceMul, Nat.reduceLeDiff, Nat.reduceLT, Nat.reduceEqDiff, Nat.reduceBEq, Int.reduceToNat, Int.reduceNeg, Int.reduceEq, Int.reduceNe, Int.reduceLE, Int.reduceLT, reduceCtorEq, ↓reduceIte]; try trivial)))) ?_
  simp only [vx, vz, Nat.reduceAdd, Nat.reduceSub, Nat.reduceMul, Nat.reduceLeDiff, Nat.reduceLT, Nat.reduceEqDiff, Nat.reduceBEq, Int.reduceToNat, Int.reduceNeg, Int.reduceEq, Int.reduceNe, Int.reduceLE, Int.reduceLT, reduceCtorEq, ↓reduceIte]
  refine loop_st (fun p : SB => ⟨mkF 58 [(0, rzL l), (3, .osl 1 1 p.2.1.length 0 p.2.1.length), (4, .d (.int .i64 p.1))], .live 1 [] :: .live 1 (cels p.2.2.1 p.2.1) :: p.2.2.2⟩)
    (fun p => p.1 ≤ l.length ∧ bucS l = bucG (l.drop p.1) p.1 p.2.1 ∧ Hold p.2.2.2 p.2.2.1 p.2.1 ∧ p.2.1.length ≤ p.1 ∧ (∀ q ∈ p.2.1, q.2.length ≤ p.1) ∧ Keys l p.2.1) (fun p => l.length - p.1) (0, [], [], []) (weak_any (by simp only [vx, vz, Nat.reduceAdd, Nat.reduceSub, Nat.reduceMul, Nat.reduceLeDiff, Nat.reduceLT, Nat.reduceEqDiff, Nat.reduceBEq, Int.reduceToNat, Int.reduceNeg, Int.reduceEq, Int.reduceNe, Int.reduceLE, Int.reduceLT, reduceCtorEq, ↓reduceIte]; try trivial)) ?_ (fun p hp => ?_)
  · exact ⟨by simp, rfl, ⟨rfl, by simp, by simp⟩, by simp, by simp, ⟨by simp, by simp⟩⟩
  obtain ⟨i, bs, hs, T⟩ := p
  obtain ⟨h1, h2, hH, hb, hq, hK⟩ := hp
  simp only at h1 h2 hH hb hq hK
  simp only [vx, vz, Nat.reduceAdd, Nat.reduceSub, Nat.reduceMul, Nat.reduceLeDiff, Nat.reduceLT, Nat.reduceEqDiff, Nat.reduceBEq, Int.reduceToNat, Int.reduceNeg, Int.reduceEq, Int.reduceNe, Int.reduceLE, Int.reduceLT, reduceCtorEq, ↓reduceIte]
  refine cond_split (fun hc => ?_) (fun hc => ?_)
  · simp only [decide_eq_true_eq] at hc
    obtain ⟨x, hx⟩ := get_ex (l := l) (i := i) (by omega)
    have okx := ok x (List.mem_of_getElem? hx)
    rw [drop_at hx, bucG] at h2
    have hcl := cels_len hH.len
    have r0 : ∀ B : Go.Vx.Rows, Go.Vx.rowAt (T ++ B) T.length = Go.Vx.rowAt B 0 := fun B => rowAt_app (by omega)
    have s0 : ∀ (B : Go.Vx.Rows) (r : RowS), setAt (T ++ B) T.length r = T ++ setAt B 0 r := fun B r => setAt_app (by omega)
    have r1 : ∀ B : Go.Vx.Rows, Go.Vx.rowAt (T ++ B) (T.length + 1) = Go.Vx.rowAt B 1 := fun B => rowAt_app (by omega)
    have s1 : ∀ (B : Go.Vx.Rows) (r : RowS), setAt (T ++ B) (T.length + 1) r = T ++ setAt B 1 r := fun B r => setAt_app (by omega)
    have r2 : ∀ B : Go.Vx.Rows, Go.Vx.rowAt (T ++ B) (T.length + 2) = Go.Vx.rowAt B 2 := fun B => rowAt_app (by omega)
    have s2 : ∀ (B : Go.Vx.Rows) (r : RowS), setAt (T ++ B) (T.length + 2) r = T ++ setAt B 2 r := fun B r => setAt_app (by omega)
    simp only [vx, vz, Nat.reduceAdd, Nat.reduceSub, Nat.reduceMul, Nat.reduceLeDiff, Nat.reduceLT, Nat.reduceEqDiff, Nat.reduceBEq, Int.reduceToNat, Int.reduceNeg, Int.reduceEq, Int.reduceNe, Int.reduceLE, Int.reduceLT, reduceCtorEq, ↓reduceIte]
    refine ⟨by omega, by omega, getM_at hx ?_⟩
    simp only [vx, vz, Nat.reduceAdd, Nat.reduceSub, Nat.reduceMul, Nat.reduceLeDiff, Nat.reduceLT, Nat.reduceEqDiff, Nat.reduceBEq, Int.reduceToNat, Int.reduceNeg, Int.reduceEq, Int.reduceNe, Int.reduceLE, Int.reduceLT, reduceCtorEq, ↓reduceIte]
    simp only [vx, vz, Nat.reduceAdd, Nat.reduceSub, Nat.reduceMul, Nat.reduceLeDiff, Nat.reduceLT, Nat.reduceEqDiff, Nat.reduceBEq, Int.reduceToNat, Int.reduceNeg, Int.reduceEq, Int.reduceNe, Int.reduceLE, Int.reduceLT, reduceCtorEq, ↓reduceIte, Rz.d]
    refine call_p rfl (t37 x okx) ?_
    simp only [vx, vz, Nat.reduceAdd, Nat.reduceSub, Nat.reduceMul, Nat.reduceLeDiff, Nat.reduceLT, Nat.reduceEqDiff, Nat.reduceBEq, Int.reduceToNat, Int.reduceNeg, Int.reduceEq, Int.reduceNe, Int.reduceLE, Int.reduceLT, reduceCtorEq, ↓reduceIte]
    cases hf : fldS x with
    | false =>
      rw [hf, if_neg (by decide)] at h2
      simp only [vx, vz, Nat.reduceAdd, Nat.reduceSub, Nat.reduceMul, Nat.reduceLeDiff, Nat.reduceLT, Nat.reduceEqDiff, Nat.reduceBEq, Int.reduceToNat, Int.reduceNeg, Int.reduceEq, Int.reduceNe, Int.reduceLE, Int.reduceLT, reduceCtorEq, ↓reduceIte]
      refine ls_n (i + 1, bs, hs, T) (by simp only; omega) (weak_any ?_) ⟨by simp only; omega, h2, hH, by simp only; omega, fun q h => by have := hq q h; simp only; omega, hK⟩
      simp only [vx, vz, Nat.reduceAdd, Nat.reduceSub, Nat.reduceMul, Nat.reduceLeDiff, Nat.reduceLT, Nat.reduceEqDiff, Nat.reduceBEq, Int.reduceToNat, Int.reduceNeg, Int.reduceEq, Int.reduceNe, Int.reduceLE, Int.reduceLT, reduceCtorEq, ↓reduceIte]
      rw [wr_i64 (by omega) (by omega)]
      first | trivial | exact ⟨rfl, rfl⟩
    | true =>
      rw [hf, if_pos rfl] at h2
      simp only [vx, vz, Nat.reduceAdd, Nat.reduceSub, Nat.reduceMul, Nat.reduceLeDiff, Nat.reduceLT, Nat.reduceEqDiff, Nat.reduceBEq, Int.reduceToNat, Int.reduceNeg, Int.reduceEq, Int.reduceNe, Int.reduceLE, Int.reduceLT, reduceCtorEq, ↓reduceIte]
      refine loop_st (fun p : Nat × Int => ⟨mkF 58 [(0, rzL l), (3, .osl 1 1 bs.length 0 bs.length), (4, .d (.int .i64 i)), (5, .d (.int .i64 p.2)), (6, .d (.int .i64 p.1))], .live 1 [] :: .live 1 (cels hs bs) :: T⟩)
        (fun p => p.1 ≤ bs.length ∧ ((∃ (j : Nat) (q : Bk), j < p.1 ∧ bs[j]? = some q ∧ q.1 = srtS x.sg ∧ p.2 = j) ∨ ((∀ (j : Nat) (q : Bk), j < p.1 → bs[j]? = some q → q.1 ≠ srtS x.sg) ∧ p.2 = -1))) (fun p => bs.length - p.1) (0, -1) (weak_any (by simp only [vx, vz, Nat.reduceAdd, Nat.reduceSub, Nat.reduceMul, Nat.reduceLeDiff, Nat.reduceLT, Nat.reduceEqDiff, Nat.reduceBEq, Int.reduceToNat, Int.reduceNeg, Int.reduceEq, Int.reduceNe, Int.reduceLE, Int.reduceLT, reduceCtorEq, ↓reduceIte]; try trivial)) ⟨by omega, .inr ⟨fun j q h => by simp only at h; omega, rfl⟩⟩ (fun p hp => ?_)
      obtain ⟨k, at_⟩ := p
      obtain ⟨g1, g2⟩ := hp
      simp only at g1 g2
      simp only [vx, vz, Nat.reduceAdd, Nat.reduceSub, Nat.reduceMul, Nat.reduceLeDiff, Nat.reduceLT, Nat.reduceEqDiff, Nat.reduceBEq, Int.reduceToNat, Int.reduceNeg, Int.reduceEq, Int.reduceNe, Int.reduceLE, Int.reduceLT, reduceCtorEq, ↓reduceIte, hcl]
      refine cond_split (fun hc2 => ?_) (fun hc2 => ?_)
      · simp only [decide_eq_true_eq] at hc2
        obtain ⟨p, hp⟩ := get_ex (l := bs) (i := k) (by omega)
        obtain ⟨h, hh⟩ := get_ex (l := hs) (i := k) (by rw [hH.len]; omega)
        obtain ⟨y, ry, rest, e1, e2, e3, e4⟩ := hK.rep p (List.mem_of_getElem? hp)
        have hrow := hH.row k h p hh hp
        have rh : Go.Vx.rowAt T h = rowB1 p := by rw [rowAt_eq, hrow]; rfl
        have hy := (List.getElem?_eq_some_iff.1 e2).1
        have e5 : p.2.length = rest.length + 1 := by rw [e1]; rfl
        simp only [vx, vz, Nat.reduceAdd, Nat.reduceSub, Nat.reduceMul, Nat.reduceLeDiff, Nat.reduceLT, Nat.reduceEqDiff, Nat.reduceBEq, Int.reduceToNat, Int.reduceNeg, Int.reduceEq, Int.reduceNe, Int.reduceLE, Int.reduceLT, reduceCtorEq, ↓reduceIte]
        refine c_quiet rfl ?_
        simp only [vx, vz, Nat.reduceAdd, Nat.reduceSub, Nat.reduceMul, Nat.reduceLeDiff, Nat.reduceLT, Nat.reduceEqDiff, Nat.reduceBEq, Int.reduceToNat, Int.reduceNeg, Int.reduceEq, Int.reduceNe, Int.reduceLE, Int.reduceLT, reduceCtorEq, ↓reduceIte, hcl]
        refine ⟨by omega, by omega, getA_iff.2 ⟨_, cels_at hh hp, ?_⟩⟩
        simp only [vx, vz, Nat.reduceAdd, Nat.reduceSub, Nat.reduceMul, Nat.reduceLeDiff, Nat.reduceLT, Nat.reduceEqDiff, Nat.reduceBEq, Int.reduceToNat, Int.reduceNeg, Int.reduceEq, Int.reduceNe, Int.reduceLE, Int.reduceLT, reduceCtorEq, ↓reduceIte, cel, rh, rowB1, e1, iD]
        refine ⟨by omega, by omega, by omega, getM_nat e2 ?_⟩
        simp only [vx, vz, Nat.reduceAdd, Nat.reduceSub, Nat.reduceMul, Nat.reduceLeDiff, Nat.reduceLT, Nat.reduceEqDiff, Nat.reduceBEq, Int.reduceToNat, Int.reduceNeg, Int.reduceEq, Int.reduceNe, Int.reduceLE, Int.reduceLT, reduceCtorEq, ↓reduceIte, Rz.d]
        refine ⟨by omega, by omega, getM_at hx ?_⟩
        simp only [vx, vz, Nat.reduceAdd, Nat.reduceSub, Nat.reduceMul, Nat.reduceLeDiff, Nat.reduceLT, Nat.reduceEqDiff, Nat.reduceBEq, Int.reduceToNat, Int.reduceNeg, Int.reduceEq, Int.reduceNe, Int.reduceLE, Int.reduceLT, reduceCtorEq, ↓reduceIte]
        simp only [vx, vz, Nat.reduceAdd, Nat.reduceSub, Nat.reduceMul, Nat.reduceLeDiff, Nat.reduceLT, Nat.reduceEqDiff, Nat.reduceBEq, Int.reduceToNat, Int.reduceNeg, Int.reduceEq, Int.reduceNe, Int.reduceLE, Int.reduceLT, reduceCtorEq, ↓reduceIte, Rz.d]
        refine call_p rfl (t22 ry x (ok ry (List.mem_of_getElem? e2)) okx) ?_
        simp only [vx, vz, Nat.reduceAdd, Nat.reduceSub, Nat.reduceMul, Nat.reduceLeDiff, Nat.reduceLT, Nat.reduceEqDiff, Nat.reduceBEq, Int.reduceToNat, Int.reduceNeg, Int.reduceEq, Int.reduceNe, Int.reduceLE, Int.reduceLT, reduceCtorEq, ↓reduceIte]
        have hsam : samS ry x = decide (srtS ry.sg = srtS x.sg) := by rw [samS, e3, hf]; simp
        rw [hsam, e4]
        by_cases he : p.1 = srtS x.sg
        · simp only [vx, vz, Nat.reduceAdd, Nat.reduceSub, Nat.reduceMul, Nat.reduceLeDiff, Nat.reduceLT, Nat.reduceEqDiff, Nat.reduceBEq, Int.reduceToNat, Int.reduceNeg, Int.reduceEq, Int.reduceNe, Int.reduceLE, Int.reduceLT, reduceCtorEq, ↓reduceIte, dt he]
          refine ls_n (k + 1, (k : Int)) (by simp only; omega) (weak_any ?_) ⟨by simp only; omega, .inl ⟨k, p, by simp only; omega, hp, he, rfl⟩⟩
          simp only [vx, vz, Nat.reduceAdd, Nat.reduceSub, Nat.reduceMul, Nat.reduceLeDiff, Nat.reduceLT, Nat.reduceEqDiff, Nat.reduceBEq, Int.reduceToNat, Int.reduceNeg, Int.reduceEq, Int.reduceNe, Int.reduceLE, Int.reduceLT, reduceCtorEq, ↓reduceIte]
          rw [wr_i64 (by omega) (by omega)]
          first | trivial | exact ⟨rfl, rfl⟩
        · simp only [vx, vz, Nat.reduceAdd, Nat.reduceSub, Nat.reduceMul, Nat.reduceLeDiff, Nat.reduceLT, Nat.reduceEqDiff, Nat.reduceBEq, Int.reduceToNat, Int.reduceNeg, Int.reduceEq, Int.reduceNe, Int.reduceLE, Int.reduceLT, reduceCtorEq, ↓reduceIte, df he]
          refine ls_n (k + 1, at_) (by simp only; omega) (weak_any ?_) ⟨by simp only; omega, ?_⟩
          · simp only [vx, vz, Nat.reduceAdd, Nat.reduceSub, Nat.reduceMul, Nat.reduceLeDiff, Nat.reduceLT, Nat.reduceEqDiff, Nat.reduceBEq, Int.reduceToNat, Int.reduceNeg, Int.reduceEq, Int.reduceNe, Int.reduceLE, Int.reduceLT, reduceCtorEq, ↓reduceIte]
            rw [wr_i64 (by omega) (by omega)]
            first | trivial | exact ⟨rfl, rfl⟩
          · rcases g2 with ⟨j, q, g3, g4, g5, g6⟩ | ⟨g3, g4⟩
            · exact .inl ⟨j, q, by simp only; omega, g4, g5, g6⟩
            · refine .inr ⟨fun j q g5 g6 => ?_, g4⟩
              simp only at g5
              by_cases hjk : j = k
              · subst hjk; rw [hp] at g6; injection g6 with g6; subst g6; exact he
              · exact g3 j q (by omega) g6
      · simp only [decide_eq_false_iff_not] at hc2
        have hkb : k = bs.length := by omega
        subst hkb
        simp only [vx, vz, Nat.reduceAdd, Nat.reduceSub, Nat.reduceMul, Nat.reduceLeDiff, Nat.reduceLT, Nat.reduceEqDiff, Nat.reduceBEq, Int.reduceToNat, Int.reduceNeg, Int.reduceEq, Int.reduceNe, Int.reduceLE, Int.reduceLT, reduceCtorEq, ↓reduceIte]
        rcases g2 with ⟨j, p, g3, k1, k2, rfl⟩ | ⟨k1, rfl⟩
        · have hj := (List.getElem?_eq_some_iff.1 k1).1
          obtain ⟨h, hh⟩ := get_ex (l := hs) (i := j) (by rw [hH.len]; exact hj)
          have hrow := hH.row j h p hh k1
          have rh : ∀ B : Go.Vx.Rows, Go.Vx.rowAt (T ++ B) h = rowB1 p := fun B => rowAt_get hrow
          have sh : ∀ (B : Go.Vx.Rows) (r : RowS), setAt (T ++ B) h r = T.set h r ++ B := fun B r => setAt_get hrow
          have hpl := hq p (List.mem_of_getElem? k1)
          simp only [vx, vz, Nat.reduceAdd, Nat.reduceSub, Nat.reduceMul, Nat.reduceLeDiff, Nat.reduceLT, Nat.reduceEqDiff, Nat.reduceBEq, Int.reduceToNat, Int.reduceNeg, Int.reduceEq, Int.reduceNe, Int.reduceLE, Int.reduceLT, reduceCtorEq, ↓reduceIte, dt (show (0 : Int) ≤ (j : Int) by omega), hcl, r0, r1, r2, s0, s1, s2, List.append_assoc]
          refine ⟨by omega, by omega, getA_iff.2 ⟨_, cels_at hh k1, ?_⟩⟩
          simp only [vx, vz, Nat.reduceAdd, Nat.reduceSub, Nat.reduceMul, Nat.reduceLeDiff, Nat.reduceLT, Nat.reduceEqDiff, Nat.reduceBEq, Int.reduceToNat, Int.reduceNeg, Int.reduceEq, Int.reduceNe, Int.reduceLE, Int.reduceLT, reduceCtorEq, ↓reduceIte, cel, rh, sh, rowB1, hcl, r0, r1, r2, s0, s1, s2, List.append_assoc]
          refine ⟨by unfold maxBytes; omega, by omega, by omega, getA_iff.2 ⟨_, cels_at hh k1, ?_⟩⟩
          simp only [vx, vz, Nat.reduceAdd, Nat.reduceSub, Nat.reduceMul, Nat.reduceLeDiff, Nat.reduceLT, Nat.reduceEqDiff, Nat.reduceBEq, Int.reduceToNat, Int.reduceNeg, Int.reduceEq, Int.reduceNe, Int.reduceLE, Int.reduceLT, reduceCtorEq, ↓reduceIte, cel, rh, sh, hcl, r0, r1, r2, s0, s1, s2, List.append_assoc]
          have hins : insB (srtS x.sg) (i : Int) bs = bs.set j (p.1, p.2 ++ [(i : Int)]) := by
            rw [ins_old k1 k2 (fun m q hm hq he => by have := hK.nd m j q p hq k1 (by rw [he, k2]); omega), k2]
          rw [hins] at h2
          have e2 := cels_set (q := (p.1, p.2 ++ [(i : Int)])) hh hH.len
          have e3 : rowB1 (p.1, p.2 ++ [(i : Int)]) = .live 1 (((p.2.map iD).map (·.map .d)) ++ [[.d (.int .i64 (i : Int))]]) := by simp [rowB1, iD]
          have e4 : (p.1, p.2 ++ [(i : Int)]).2.length = p.2.length + 1 := by simp
          rw [e4] at e2
          refine ls_n (i + 1, bs.set j (p.1, p.2 ++ [(i : Int)]), hs, T.set h (rowB1 (p.1, p.2 ++ [(i : Int)])) ++ ?B) (by simp only; omega) ?w ⟨by simp only; omega, h2, hH.old hh k1 _, by simp only [List.length_set]; omega, fun q h => ?_, hK.old k1 _⟩
          case w =>
            simp only [← e2, e3, List.length_set]
            refine weak_any ?_
            simp only [vx, vz, Nat.reduceAdd, Nat.reduceSub, Nat.reduceMul, Nat.reduceLeDiff, Nat.reduceLT, Nat.reduceEqDiff, Nat.reduceBEq, Int.reduceToNat, Int.reduceNeg, Int.reduceEq, Int.reduceNe, Int.reduceLE, Int.reduceLT, reduceCtorEq, ↓reduceIte, cel]
            rw [wr_i64 (by omega) (by omega)]
            first | trivial | exact ⟨rfl, rfl⟩
          · simp only at h ⊢
            rcases List.mem_or_eq_of_mem_set h with h | rfl
            · have := hq q h; omega
            · simp only [List.length_append, List.length_cons, List.length_nil]; omega
        · have hnn : ∀ p ∈ bs, p.1 ≠ srtS x.sg := fun p hp => by
            obtain ⟨j, hj, rfl⟩ := List.getElem_of_mem hp
            exact k1 j _ hj (List.getElem?_eq_getElem hj)
          simp only [vx, vz, Nat.reduceAdd, Nat.reduceSub, Nat.reduceMul, Nat.reduceLeDiff, Nat.reduceLT, Nat.reduceEqDiff, Nat.reduceBEq, Int.reduceToNat, Int.reduceNeg, Int.reduceEq, Int.reduceNe, Int.reduceLE, Int.reduceLT, reduceCtorEq, ↓reduceIte, hcl, r0, r1, r2, s0, s1, s2, List.append_assoc]
          refine ⟨by unfold maxBytes; omega, ?_⟩
          have hins := ins_new (i := (i : Int)) hnn
          rw [hins] at h2
          have hset : cels hs bs ++ [[V.osl 1 (T.length + 2) 1 0 1]] = cels (hs ++ [T.length]) (bs ++ [(srtS x.sg, [(i : Int)])]) := (cels_snoc (h := T.length) (q := (srtS x.sg, [(i : Int)])) hH.len).symm
          refine ls_n (i + 1, bs ++ [(srtS x.sg, [(i : Int)])], hs ++ [T.length], T ++ ?B2) (by simp only; omega) ?w ⟨by simp only; omega, h2, hH.new (Nat.le_refl _) ?_, by simp only [List.length_append, List.length_cons, List.length_nil]; omega, fun q h => ?_, hK.new hx hf hnn⟩
          case w =>
            simp only [← hset, List.length_append, List.length_cons, List.length_nil]
            refine weak_any ?_
            simp only [vx, vz, Nat.reduceAdd, Nat.reduceSub, Nat.reduceMul, Nat.reduceLeDiff, Nat.reduceLT, Nat.reduceEqDiff, Nat.reduceBEq, Int.reduceToNat, Int.reduceNeg, Int.reduceEq, Int.reduceNe, Int.reduceLE, Int.reduceLT, reduceCtorEq, ↓reduceIte]
            rw [wr_i64 (by omega) (by omega)]
            first | trivial | exact ⟨rfl, rfl⟩
          · rw [List.getElem?_append_right (by omega), Nat.sub_self]; rfl
          · simp only [List.mem_append, List.mem_cons, List.not_mem_nil, or_false] at h ⊢
            rcases h with h | rfl
            · have := hq q h; omega
            · simp only [List.length_cons, List.length_nil]; omega
  · simp only [decide_eq_false_iff_not] at hc
    rw [drop_end (by omega), bucG] at h2
    simp only [vx, vz, Nat.reduceAdd, Nat.reduceSub, Nat.reduceMul, Nat.reduceLeDiff, Nat.reduceLT, Nat.reduceEqDiff, Nat.reduceBEq, Int.reduceToNat, Int.reduceNeg, Int.reduceEq, Int.reduceNe, Int.reduceLE, Int.reduceLT, reduceCtorEq, ↓reduceIte]
    rw [h2]
    exact sn_bk hH 1 rfl
end Go.Proofs.Sg
