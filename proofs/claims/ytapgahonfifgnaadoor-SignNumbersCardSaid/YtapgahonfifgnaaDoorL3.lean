import Derived.Test.YtapgahonfifgnaaDoorL2
set_option linter.unusedSimpArgs false
set_option linter.unusedVariables false
namespace Go.Proofs.Sg
open Go.Vx
theorem fin_at {l : List Rz} {s : B} {x0 : Nat} (h : selB l (srtS s) x0 = true) (hn : ∀ y, y < x0 → selB l (srtS s) y = false) : finS s l 0 = ((x0 : Int), true) := by
  have hx : ∃ r, l[x0]? = some r := by
    rw [selB] at h
    cases hl : l[x0]? with
    | none => rw [hl] at h; cases h
    | some r => exact ⟨r, rfl⟩
  obtain ⟨r0, hr0⟩ := hx
  have hlt := (List.getElem?_eq_some_iff.1 hr0).1
  have : ∀ d n, n + d = x0 → finS s (l.drop n) n = ((x0 : Int), true) := by
    intro d
    induction d with
    | zero =>
      intro n hnd
      obtain rfl : n = x0 := by omega
      rw [drop_at hr0, finS, ← selB_at hr0, if_pos h]
    | succ d ih =>
      intro n hnd
      obtain ⟨r, hr⟩ := get_ex (l := l) (i := n) (by omega)
      rw [drop_at hr, finS, ← selB_at hr, hn n (by omega), if_neg (by decide)]
      exact ih (n + 1) (by omega)
  exact this x0 0 (by omega)
theorem selB_fld {l : List Rz} {k : B} {x : Nat} (h : selB l k x = true) : ∃ r, l[x]? = some r ∧ fldS r = true ∧ srtS r.sg = k := by
  rw [selB] at h
  cases hl : l[x]? with
  | none => rw [hl] at h; cases h
  | some r =>
    rw [hl] at h
    simp only [Bool.and_eq_true, decide_eq_true_eq] at h
    exact ⟨r, rfl, h.1, h.2⟩
theorem fld_ne {r : Rz} (h : fldS r = true) : r.sg ≠ [] := by
  simp only [fldS, Bool.and_eq_true, decide_eq_true_eq] at h
  exact h.2
theorem fst_at {l : List Rz} {k : B} {x x0 : Nat} {r : Rz} (hr : l[x]? = some r) (hx : selB l k x = true) (h : selB l k x0 = true) (hn : ∀ y, y < x0 → selB l k y = false) : fstS l r.sg = ((x0 : Int), true) := by
  obtain ⟨r', h1, h2, h3⟩ := selB_fld hx
  rw [hr] at h1; injection h1 with h1; subst h1
  rw [fstS, if_pos (by rw [fld_div h2, dt (fld_ne h2)]; rfl)]
  subst h3
  exact fin_at h hn
theorem nam_eq {a b : Rz} (ha : fldS a = true) (hb : fldS b = true) (h : srtS a.sg = srtS b.sg) : namS a = namS b := by
  rw [namS, namS, if_pos ha, if_pos hb, h]
/-- a bucket, as places -/
theorem bk_nat {l : List Rz} {p : Bk} (h : p ∈ bucS l) : ∃ N : List Nat, p.2 = N.map (fun x : Nat => (x : Int)) ∧ N.Pairwise (· < ·) ∧ (∀ x ∈ N, x < l.length) ∧ (∀ x, x ∈ N ↔ x < l.length ∧ selB l p.1 x = true) := by
  refine ⟨selN l l.length p.1, (bg_all l).eq p h, sel_asc, fun x hx => ?_, fun x => ?_⟩
  · simp [selN] at hx; exact hx.1
  · simp [selN]
/-- where each place lies: the state of the first loop -/
structure Wi (l : List Rz) (i k : Nat) (W : List Int) : Prop where
  len : W.length = l.length
  a : ∀ (j : Nat) (p : Bk) (x : Nat), j < i → (bucS l)[j]? = some p → (x : Int) ∈ p.2 → W[x]? = some ((j : Int) + 1)
  b : ∀ (p : Bk) (x m : Nat), (bucS l)[i]? = some p → m < k → p.2[m]? = some (x : Int) → W[x]? = some ((i : Int) + 1)
  c : ∀ x, x < l.length → (∀ (j : Nat) (p : Bk), j < i → (bucS l)[j]? = some p → (x : Int) ∉ p.2) → (∀ (p : Bk) (m : Nat), (bucS l)[i]? = some p → m < k → p.2[m]? ≠ some (x : Int)) → W[x]? = some 0
theorem mem_sel {l : List Rz} {p : Bk} {x : Nat} (h : p ∈ bucS l) (hx : (x : Int) ∈ p.2) : x < l.length ∧ selB l p.1 x = true := by
  rw [(bg_all l).eq p h] at hx
  exact sel_mem.1 hx
theorem same_bk {l : List Rz} {j m x : Nat} {p q : Bk} (hp : (bucS l)[j]? = some p) (hq : (bucS l)[m]? = some q) (h1 : (x : Int) ∈ p.2) (h2 : (x : Int) ∈ q.2) : j = m := by
  obtain ⟨r, e1, _, e3⟩ := selB_fld (mem_sel (List.mem_of_getElem? hp) h1).2
  obtain ⟨r', f1, _, f3⟩ := selB_fld (mem_sel (List.mem_of_getElem? hq) h2).2
  rw [e1] at f1; injection f1 with f1; subst f1
  exact (bg_all l).nd j m p q hp hq (by rw [← e3, f3])
theorem asc_at {l : List Rz} {p : Bk} {a b x y : Nat} (h : p ∈ bucS l) (ha : p.2[a]? = some (x : Int)) (hb : p.2[b]? = some (y : Int)) (hab : a < b) : x < y := by
  obtain ⟨N, e, hN, _, _⟩ := bk_nat h
  rw [e, List.getElem?_map] at ha hb
  obtain ⟨x', h1, h2⟩ := Option.map_eq_some_iff.1 ha
  obtain ⟨y', h3, h4⟩ := Option.map_eq_some_iff.1 hb
  obtain rfl : x' = x := by omega
  obtain rfl : y' = y := by omega
  obtain ⟨h5, h6⟩ := List.getElem?_eq_some_iff.1 h1
  obtain ⟨h7, h8⟩ := List.getElem?_eq_some_iff.1 h3
  rw [← h6, ← h8]
  exact List.pairwise_iff_getElem.1 hN a b h5 h7 hab
theorem Wi.zero {l : List Rz} {i k x : Nat} {W : List Int} {p : Bk} (h : Wi l i k W) (hp : (bucS l)[i]? = some p) (hx : p.2[k]? = some (x : Int)) : W[x]? = some 0 := by
  have hm := List.mem_of_getElem? hx
  refine h.c x (mem_sel (List.mem_of_getElem? hp) hm).1 (fun j q hj hq hxq => ?_) fun q m hq hmk hxm => ?_
  · have := same_bk hq hp hxq hm; omega
  · rw [hp] at hq; injection hq with hq; subst hq
    have := asc_at (List.mem_of_getElem? hp) hxm hx hmk
    omega
theorem Wi.step {l : List Rz} {i k x : Nat} {W : List Int} {p : Bk} (h : Wi l i k W) (hp : (bucS l)[i]? = some p) (hx : p.2[k]? = some (x : Int)) : Wi l i (k + 1) (W.set x ((i : Int) + 1)) := by
  have hm := List.mem_of_getElem? hx
  have hxl := (mem_sel (List.mem_of_getElem? hp) hm).1
  refine ⟨by simp [h.len], fun j q y hj hq hy => ?_, fun q y m hq hmk hy => ?_, fun y hy h1 h2 => ?_⟩
  · rw [List.getElem?_set_ne (fun e => by subst e; have := same_bk hq hp hy hm; omega)]
    exact h.a j q y hj hq hy
  · by_cases e : x = y
    · subst e; exact List.getElem?_set_self (by rw [h.len]; exact hxl)
    · rw [List.getElem?_set_ne e]
      rw [hp] at hq; injection hq with hq; subst hq
      refine h.b p y m hp ?_ hy
      by_cases hmk2 : m = k
      · subst hmk2; rw [hx] at hy; injection hy with hy; omega
      · omega
  · rw [List.getElem?_set_ne (fun e => by subst e; exact h2 p k hp (by omega) hx)]
    exact h.c y hy h1 fun q m hq hmk => h2 q m hq (by omega)
theorem Wi.next {l : List Rz} {i k : Nat} {W : List Int} {p : Bk} (h : Wi l i k W) (hp : (bucS l)[i]? = some p) (hk : p.2.length ≤ k) : Wi l (i + 1) 0 W := by
  refine ⟨h.len, fun j q x hj hq hx => ?_, fun q x m _ hm => by omega, fun x hx h1 _ => ?_⟩
  · by_cases hji : j = i
    · subst hji
      rw [hp] at hq; injection hq with hq; subst hq
      obtain ⟨m, hm, e⟩ := List.getElem_of_mem hx
      exact h.b p x m hp (by omega) (by rw [List.getElem?_eq_getElem hm, e])
    · exact h.a j q x (by omega) hq hx
  · refine h.c x hx (fun j q hj hq => h1 j q (by omega) hq) fun q m hq hm hxm => ?_
    rw [hp] at hq; injection hq with hq; subst hq
    exact h1 i p (by omega) hp (List.mem_of_getElem? hxm)
/-- what the list says in the end -/
theorem Wi.fin {l : List Rz} {i : Nat} {W : List Int} (h : Wi l i 0 W) (hi : (bucS l).length ≤ i) {x : Nat} {r : Rz} (hr : l[x]? = some r) :
    (fldS r = true ∧ ∃ (j : Nat) (p : Bk), (bucS l)[j]? = some p ∧ p.1 = srtS r.sg ∧ W[x]? = some ((j : Int) + 1)) ∨ (fldS r = false ∧ W[x]? = some 0) := by
  have hxl := (List.getElem?_eq_some_iff.1 hr).1
  cases hf : fldS r with
  | true =>
    obtain ⟨p, hp, hk⟩ := (bg_all l).cov x r hxl hr hf
    obtain ⟨j, hj, rfl⟩ := List.getElem_of_mem hp
    refine .inl ⟨rfl, j, _, List.getElem?_eq_getElem hj, hk, h.a j _ x (by omega) (List.getElem?_eq_getElem hj) ?_⟩
    rw [(bg_all l).eq _ hp]
    exact sel_mem.2 ⟨hxl, by rw [selB_at hr, hf, hk]; simp⟩
  | false =>
    refine .inr ⟨rfl, h.c x hxl (fun j p hj hp hx => ?_) (fun p m hp => ?_)⟩
    · obtain ⟨r', e1, e2, _⟩ := selB_fld (mem_sel (List.mem_of_getElem? hp) hx).2
      rw [hr] at e1; injection e1 with e1; subst e1; rw [hf] at e2; cases e2
    · intro hm; omega
/-- the same bucket, or none -/
theorem sam_where {l : List Rz} {i : Nat} {W : List Int} (h : Wi l i 0 W) (hi : (bucS l).length ≤ i) {x y : Nat} {r t : Rz} {wx wy : Int} (hr : l[x]? = some r) (ht : l[y]? = some t) (hx : W[x]? = some wx) (hy : W[y]? = some wy) :
    samS r t = (fldS r && decide (wx = wy)) := by
  unfold samS
  rcases h.fin hi hr with ⟨h1, j, p, h2, h3, h4⟩ | ⟨h1, h2⟩
  · rw [hx] at h4; injection h4 with h4
    rw [h1, Bool.true_and, Bool.true_and]
    rcases h.fin hi ht with ⟨g1, m, q, g2, g3, g4⟩ | ⟨g1, g2⟩
    · rw [hy] at g4; injection g4 with g4
      rw [g1, Bool.true_and]
      refine decide_eq_decide.2 ⟨fun e => ?_, fun e => ?_⟩
      · have := (bg_all l).nd j m p q h2 g2 (by rw [h3, g3, e]); omega
      · obtain rfl : j = m := by omega
        rw [h2] at g2; injection g2 with g2; subst g2; rw [← h3, g3]
    · rw [hy] at g2; injection g2 with g2
      rw [g1, Bool.false_and, df (show ¬ wx = wy by omega)]
  · rw [h1, Bool.false_and, Bool.false_and]
abbrev wV (W : List Int) : List (List V) := W.map fun x => [V.d (.int .i64 x)]
set_option maxRecDepth 100000 in
set_option maxHeartbeats 1000000 in
theorem l6 (l : List Rz) (hl : l.length ≤ maxLen) (ok : ∀ r ∈ l, okR r) : CallP Tryd.prog 6 [rzL l] (.d (.bool true)) := by
  have hm := hm
  refine go6 ac6 rfl ?_
  simp only [vx, vz, Nat.reduceAdd, Nat.reduceSub, Nat.reduceMul, Nat.reduceLeDiff, Nat.reduceLT, Nat.reduceEqDiff, Nat.reduceBEq, Int.reduceToNat, Int.reduceNeg, Int.reduceEq, Int.reduceNe, Int.reduceLE, Int.reduceLT, reduceCtorEq, ↓reduceIte, ac6]
  refine call_p rfl (t9 l hl) ?_
  simp only [vx, vz, Nat.reduceAdd, Nat.reduceSub, Nat.reduceMul, Nat.reduceLeDiff, Nat.reduceLT, Nat.reduceEqDiff, Nat.reduceBEq, Int.reduceToNat, Int.reduceNeg, Int.reduceEq, Int.reduceNe, Int.reduceLE, Int.reduceLT, reduceCtorEq, ↓reduceIte]
  cases hf : fewS l with
  | false =>
    simp only [vx, vz, Nat.reduceAdd, Nat.reduceSub, Nat.reduceMul, Nat.reduceLeDiff, Nat.reduceLT, Nat.reduceEqDiff, Nat.reduceBEq, Int.reduceToNat, Int.reduceNeg, Int.reduceEq, Int.reduceNe, Int.reduceLE, Int.reduceLT, reduceCtorEq, ↓reduceIte]
    refine call_p rfl (t10) ?_
    simp only [vx, vz, Nat.reduceAdd, Nat.reduceSub, Nat.reduceMul, Nat.reduceLeDiff, Nat.reduceLT, Nat.reduceEqDiff, Nat.reduceBEq, Int.reduceToNat, Int.reduceNeg, Int.reduceEq, Int.reduceNe, Int.reduceLE, Int.reduceLT, reduceCtorEq, ↓reduceIte]
  | true =>
    have hl30 := (few_ok hf).1
    simp only [vx, vz, Nat.reduceAdd, Nat.reduceSub, Nat.reduceMul, Nat.reduceLeDiff, Nat.reduceLT, Nat.reduceEqDiff, Nat.reduceBEq, Int.reduceToNat, Int.reduceNeg, Int.reduceEq, Int.reduceNe, Int.reduceLE, Int.reduceLT, reduceCtorEq, ↓reduceIte]
    refine ⟨by omega, by omega, by omega, by omega, ?_⟩
    refine call_p rfl (t23 l (by omega) ok) ?_
    simp only [vx, vz, Nat.reduceAdd, Nat.reduceSub, Nat.reduceMul, Nat.reduceLeDiff, Nat.reduceLT, Nat.reduceEqDiff, Nat.reduceBEq, Int.reduceToNat, Int.reduceNeg, Int.reduceEq, Int.reduceNe, Int.reduceLE, Int.reduceLT, reduceCtorEq, ↓reduceIte]
    have hbl := bucS_len l
    have hz : List.replicate l.length [V.d (.int .i64 0)] = wV (List.replicate l.length 0) := by simp [wV]
    rw [hz]
    refine loop_st (fun p : Nat × List Int => ⟨mkF 178 [(0, rzL l), (3, .osl 1 0 l.length 0 l.length), (4, bkV (bucS l)), (5, .d (.int .i64 p.1))], [.live 1 (wV p.2)]⟩) (fun p => p.1 ≤ (bucS l).length ∧ Wi l p.1 0 p.2) (fun p => (bucS l).length - p.1) (0, List.replicate l.length 0) (weak_any (by simp only [vx, vz, Nat.reduceAdd, Nat.reduceSub, Nat.reduceMul, Nat.reduceLeDiff, Nat.reduceLT, Nat.reduceEqDiff, Nat.reduceBEq, Int.reduceToNat, Int.reduceNeg, Int.reduceEq, Int.reduceNe, Int.reduceLE, Int.reduceLT, reduceCtorEq, ↓reduceIte]; try trivial)) ⟨by omega, ⟨by simp, fun j p x h => by simp only at h; omega, fun p x m _ h => by omega, fun x hx _ _ => by simp only [List.getElem?_replicate]; rw [if_pos hx]⟩⟩ (fun p hp => ?_)
    obtain ⟨i, W⟩ := p
    obtain ⟨hi, hW⟩ := hp
    simp only at hi hW
    have hWl := hW.len
    simp only [vx, vz, Nat.reduceAdd, Nat.reduceSub, Nat.reduceMul, Nat.reduceLeDiff, Nat.reduceLT, Nat.reduceEqDiff, Nat.reduceBEq, Int.reduceToNat, Int.reduceNeg, Int.reduceEq, Int.reduceNe, Int.reduceLE, Int.reduceLT, reduceCtorEq, ↓reduceIte]
    refine cond_split (fun hc => ?_) (fun hc => ?_)
    · simp only [decide_eq_true_eq] at hc
      obtain ⟨p, hp⟩ := get_ex (l := bucS l) (i := i) (by omega)
      have hpm := List.mem_of_getElem? hp
      have hp2 := bk_len hpm
      have hpos := List.length_pos_iff.2 ((bg_all l).ne p hpm)
      simp only [vx, vz, Nat.reduceAdd, Nat.reduceSub, Nat.reduceMul, Nat.reduceLeDiff, Nat.reduceLT, Nat.reduceEqDiff, Nat.reduceBEq, Int.reduceToNat, Int.reduceNeg, Int.reduceEq, Int.reduceNe, Int.reduceLE, Int.reduceLT, reduceCtorEq, ↓reduceIte]
      refine ⟨by omega, by omega, getM_at hp ?_⟩
      simp only [vx, vz, Nat.reduceAdd, Nat.reduceSub, Nat.reduceMul, Nat.reduceLeDiff, Nat.reduceLT, Nat.reduceEqDiff, Nat.reduceBEq, Int.reduceToNat, Int.reduceNeg, Int.reduceEq, Int.reduceNe, Int.reduceLE, Int.reduceLT, reduceCtorEq, ↓reduceIte]
      simp only [vx, vz, Nat.reduceAdd, Nat.reduceSub, Nat.reduceMul, Nat.reduceLeDiff, Nat.reduceLT, Nat.reduceEqDiff, Nat.reduceBEq, Int.reduceToNat, Int.reduceNeg, Int.reduceEq, Int.reduceNe, Int.reduceLE, Int.reduceLT, reduceCtorEq, ↓reduceIte, bkD, df (show ¬ (p.2.length : Int) = 0 by omega)]
      refine loop_st (fun q : Nat × List Int => ⟨mkF 178 [(0, rzL l), (3, .osl 1 0 l.length 0 l.length), (4, bkV (bucS l)), (5, .d (.int .i64 i)), (6, .d (.int .i64 q.1))], [.live 1 (wV q.2)]⟩) (fun q => q.1 ≤ p.2.length ∧ Wi l i q.1 q.2) (fun q => p.2.length - q.1) (0, W) (weak_any (by simp only [vx, vz, Nat.reduceAdd, Nat.reduceSub, Nat.reduceMul, Nat.reduceLeDiff, Nat.reduceLT, Nat.reduceEqDiff, Nat.reduceBEq, Int.reduceToNat, Int.reduceNeg, Int.reduceEq, Int.reduceNe, Int.reduceLE, Int.reduceLT, reduceCtorEq, ↓reduceIte]; try trivial)) ⟨by omega, hW⟩ (fun q hq => ?_)
      obtain ⟨k, X⟩ := q
      obtain ⟨hk, hX⟩ := hq
      simp only at hk hX
      have hXl := hX.len
      simp only [vx, vz, Nat.reduceAdd, Nat.reduceSub, Nat.reduceMul, Nat.reduceLeDiff, Nat.reduceLT, Nat.reduceEqDiff, Nat.reduceBEq, Int.reduceToNat, Int.reduceNeg, Int.reduceEq, Int.reduceNe, Int.reduceLE, Int.reduceLT, reduceCtorEq, ↓reduceIte]
      refine ⟨by omega, by omega, getM_at hp ?_⟩
      simp only [vx, vz, Nat.reduceAdd, Nat.reduceSub, Nat.reduceMul, Nat.reduceLeDiff, Nat.reduceLT, Nat.reduceEqDiff, Nat.reduceBEq, Int.reduceToNat, Int.reduceNeg, Int.reduceEq, Int.reduceNe, Int.reduceLE, Int.reduceLT, reduceCtorEq, ↓reduceIte]
      simp only [vx, vz, Nat.reduceAdd, Nat.reduceSub, Nat.reduceMul, Nat.reduceLeDiff, Nat.reduceLT, Nat.reduceEqDiff, Nat.reduceBEq, Int.reduceToNat, Int.reduceNeg, Int.reduceEq, Int.reduceNe, Int.reduceLE, Int.reduceLT, reduceCtorEq, ↓reduceIte, bkD]
      refine cond_split (fun hc2 => ?_) (fun hc2 => ?_)
      · simp only [decide_eq_true_eq] at hc2
        obtain ⟨N, eN, _, _, _⟩ := bk_nat hpm
        have hxx : ∃ x : Nat, p.2[k]? = some (x : Int) := by
          obtain ⟨y, hy⟩ := get_ex (l := N) (i := k) (by have := congrArg List.length eN; simp at this; omega)
          exact ⟨y, by rw [eN, List.getElem?_map, hy]; rfl⟩
        obtain ⟨x, hx⟩ := hxx
        have hx0 : ∃ x0 : Nat, p.2[0]? = some (x0 : Int) := by
          obtain ⟨y, hy⟩ := get_ex (l := N) (i := 0) (by have := congrArg List.length eN; simp at this; omega)
          exact ⟨y, by rw [eN, List.getElem?_map, hy]; rfl⟩
        obtain ⟨x0, hx0⟩ := hx0
        have hsx := mem_sel hpm (List.mem_of_getElem? hx)
        have hs0 := mem_sel hpm (List.mem_of_getElem? hx0)
        obtain ⟨r, hr, hrf, hrs⟩ := selB_fld hsx.2
        obtain ⟨r0, hr0, hrf0, hrs0⟩ := selB_fld hs0.2
        have okr := ok r (List.mem_of_getElem? hr)
        have okr0 := ok r0 (List.mem_of_getElem? hr0)
        have hxl := hsx.1
        have hx0l := hs0.1
        have hfst : fstS l r.sg = ((x0 : Int), true) := fst_at hr hsx.2 hs0.2 fun y hy => by
          cases hsel : selB l p.1 y with
          | false => rfl
          | true =>
            have hmem : (y : Int) ∈ p.2 := by rw [(bg_all l).eq p hpm]; exact sel_mem.2 ⟨by omega, hsel⟩
            obtain ⟨m, hml, e⟩ := List.getElem_of_mem hmem
            have hme : p.2[m]? = some (y : Int) := by rw [List.getElem?_eq_getElem hml, e]
            by_cases hm0 : m = 0
            · subst hm0; rw [hx0] at hme; injection hme with hme; omega
            · have := asc_at hpm hx0 hme (by omega); omega
        have hnam := nam_eq hrf hrf0 (by rw [hrs, hrs0])
        have hz0 := hX.zero hp hx
        simp only [vx, vz, Nat.reduceAdd, Nat.reduceSub, Nat.reduceMul, Nat.reduceLeDiff, Nat.reduceLT, Nat.reduceEqDiff, Nat.reduceBEq, Int.reduceToNat, Int.reduceNeg, Int.reduceEq, Int.reduceNe, Int.reduceLE, Int.reduceLT, reduceCtorEq, ↓reduceIte]
        refine ⟨by omega, by omega, getM_at hp ?_⟩
        simp only [vx, vz, Nat.reduceAdd, Nat.reduceSub, Nat.reduceMul, Nat.reduceLeDiff, Nat.reduceLT, Nat.reduceEqDiff, Nat.reduceBEq, Int.reduceToNat, Int.reduceNeg, Int.reduceEq, Int.reduceNe, Int.reduceLE, Int.reduceLT, reduceCtorEq, ↓reduceIte]
        simp only [vx, vz, Nat.reduceAdd, Nat.reduceSub, Nat.reduceMul, Nat.reduceLeDiff, Nat.reduceLT, Nat.reduceEqDiff, Nat.reduceBEq, Int.reduceToNat, Int.reduceNeg, Int.reduceEq, Int.reduceNe, Int.reduceLE, Int.reduceLT, reduceCtorEq, ↓reduceIte, bkD]
        refine ⟨by omega, by omega, getM_at hx ?_⟩
        simp only [vx, vz, Nat.reduceAdd, Nat.reduceSub, Nat.reduceMul, Nat.reduceLeDiff, Nat.reduceLT, Nat.reduceEqDiff, Nat.reduceBEq, Int.reduceToNat, Int.reduceNeg, Int.reduceEq, Int.reduceNe, Int.reduceLE, Int.reduceLT, reduceCtorEq, ↓reduceIte]
        simp only [vx, vz, Nat.reduceAdd, Nat.reduceSub, Nat.reduceMul, Nat.reduceLeDiff, Nat.reduceLT, Nat.reduceEqDiff, Nat.reduceBEq, Int.reduceToNat, Int.reduceNeg, Int.reduceEq, Int.reduceNe, Int.reduceLE, Int.reduceLT, reduceCtorEq, ↓reduceIte, iD, df (show ¬ (x : Int) < 0 by omega), df (show ¬ (l.length : Int) ≤ (x : Int) by omega), hXl]
        refine ⟨by omega, by omega, getM_nat hz0 ?_⟩
        simp only [vx, vz, Nat.reduceAdd, Nat.reduceSub, Nat.reduceMul, Nat.reduceLeDiff, Nat.reduceLT, Nat.reduceEqDiff, Nat.reduceBEq, Int.reduceToNat, Int.reduceNeg, Int.reduceEq, Int.reduceNe, Int.reduceLE, Int.reduceLT, reduceCtorEq, ↓reduceIte]
        by_cases hk0 : 0 < (k : Int)
        · simp only [vx, vz, Nat.reduceAdd, Nat.reduceSub, Nat.reduceMul, Nat.reduceLeDiff, Nat.reduceLT, Nat.reduceEqDiff, Nat.reduceBEq, Int.reduceToNat, Int.reduceNeg, Int.reduceEq, Int.reduceNe, Int.reduceLE, Int.reduceLT, reduceCtorEq, ↓reduceIte, dt hk0]
          have hyy : ∃ y : Nat, p.2[k - 1]? = some (y : Int) := by
            obtain ⟨y, hy⟩ := get_ex (l := N) (i := k - 1) (by have := congrArg List.length eN; simp at this; omega)
            exact ⟨y, by rw [eN, List.getElem?_map, hy]; rfl⟩
          obtain ⟨y, hy⟩ := hyy
          have hyx := asc_at hpm hy hx (by omega)
          refine ⟨by omega, by omega, getM_at hp ?_⟩
          simp only [vx, vz, Nat.reduceAdd, Nat.reduceSub, Nat.reduceMul, Nat.reduceLeDiff, Nat.reduceLT, Nat.reduceEqDiff, Nat.reduceBEq, Int.reduceToNat, Int.reduceNeg, Int.reduceEq, Int.reduceNe, Int.reduceLE, Int.reduceLT, reduceCtorEq, ↓reduceIte]
          simp only [vx, vz, Nat.reduceAdd, Nat.reduceSub, Nat.reduceMul, Nat.reduceLeDiff, Nat.reduceLT, Nat.reduceEqDiff, Nat.reduceBEq, Int.reduceToNat, Int.reduceNeg, Int.reduceEq, Int.reduceNe, Int.reduceLE, Int.reduceLT, reduceCtorEq, ↓reduceIte, bkD]
          have ek : IntKind.i64.wrap ((k : Int) - 1) = ((k - 1 : Nat) : Int) := by rw [wr_i64 (by omega) (by omega)]; omega
          rw [ek]
          refine ⟨by omega, by omega, getM_at hy ?_⟩
          simp only [vx, vz, Nat.reduceAdd, Nat.reduceSub, Nat.reduceMul, Nat.reduceLeDiff, Nat.reduceLT, Nat.reduceEqDiff, Nat.reduceBEq, Int.reduceToNat, Int.reduceNeg, Int.reduceEq, Int.reduceNe, Int.reduceLE, Int.reduceLT, reduceCtorEq, ↓reduceIte]
          simp only [vx, vz, Nat.reduceAdd, Nat.reduceSub, Nat.reduceMul, Nat.reduceLeDiff, Nat.reduceLT, Nat.reduceEqDiff, Nat.reduceBEq, Int.reduceToNat, Int.reduceNeg, Int.reduceEq, Int.reduceNe, Int.reduceLE, Int.reduceLT, reduceCtorEq, ↓reduceIte, iD, df (show ¬ (x : Int) ≤ (y : Int) by omega), hXl]
          refine ⟨by omega, by omega, getM_nat hz0 ?_⟩
          simp only [vx, vz, Nat.reduceAdd, Nat.reduceSub, Nat.reduceMul, Nat.reduceLeDiff, Nat.reduceLT, Nat.reduceEqDiff, Nat.reduceBEq, Int.reduceToNat, Int.reduceNeg, Int.reduceEq, Int.reduceNe, Int.reduceLE, Int.reduceLT, reduceCtorEq, ↓reduceIte]
          rw [show (wV X).set x [V.d (.int .i64 (IntKind.i64.wrap ((i : Int) + 1)))] = wV (X.set x ((i : Int) + 1)) by rw [wr_i64 (by omega) (by omega)]; simp [wV, List.map_set]]
          refine ⟨by omega, by omega, getM_at hr ?_⟩
          simp only [vx, vz, Nat.reduceAdd, Nat.reduceSub, Nat.reduceMul, Nat.reduceLeDiff, Nat.reduceLT, Nat.reduceEqDiff, Nat.reduceBEq, Int.reduceToNat, Int.reduceNeg, Int.reduceEq, Int.reduceNe, Int.reduceLE, Int.reduceLT, reduceCtorEq, ↓reduceIte]
          simp only [vx, vz, Nat.reduceAdd, Nat.reduceSub, Nat.reduceMul, Nat.reduceLeDiff, Nat.reduceLT, Nat.reduceEqDiff, Nat.reduceBEq, Int.reduceToNat, Int.reduceNeg, Int.reduceEq, Int.reduceNe, Int.reduceLE, Int.reduceLT, reduceCtorEq, ↓reduceIte, Rz.d]
          refine call_p rfl (t19 l r.sg hl ok okr.2.2) ?_
          simp only [vx, vz, Nat.reduceAdd, Nat.reduceSub, Nat.reduceMul, Nat.reduceLeDiff, Nat.reduceLT, Nat.reduceEqDiff, Nat.reduceBEq, Int.reduceToNat, Int.reduceNeg, Int.reduceEq, Int.reduceNe, Int.reduceLE, Int.reduceLT, reduceCtorEq, ↓reduceIte]
          rw [hfst]
          simp only [vx, vz, Nat.reduceAdd, Nat.reduceSub, Nat.reduceMul, Nat.reduceLeDiff, Nat.reduceLT, Nat.reduceEqDiff, Nat.reduceBEq, Int.reduceToNat, Int.reduceNeg, Int.reduceEq, Int.reduceNe, Int.reduceLE, Int.reduceLT, reduceCtorEq, ↓reduceIte]
          refine c_quiet rfl ?_
          simp only [vx, vz, Nat.reduceAdd, Nat.reduceSub, Nat.reduceMul, Nat.reduceLeDiff, Nat.reduceLT, Nat.reduceEqDiff, Nat.reduceBEq, Int.reduceToNat, Int.reduceNeg, Int.reduceEq, Int.reduceNe, Int.reduceLE, Int.reduceLT, reduceCtorEq, ↓reduceIte]
          refine ⟨by omega, by omega, getM_at hp ?_⟩
          simp only [vx, vz, Nat.reduceAdd, Nat.reduceSub, Nat.reduceMul, Nat.reduceLeDiff, Nat.reduceLT, Nat.reduceEqDiff, Nat.reduceBEq, Int.reduceToNat, Int.reduceNeg, Int.reduceEq, Int.reduceNe, Int.reduceLE, Int.reduceLT, reduceCtorEq, ↓reduceIte]
          simp only [vx, vz, Nat.reduceAdd, Nat.reduceSub, Nat.reduceMul, Nat.reduceLeDiff, Nat.reduceLT, Nat.reduceEqDiff, Nat.reduceBEq, Int.reduceToNat, Int.reduceNeg, Int.reduceEq, Int.reduceNe, Int.reduceLE, Int.reduceLT, reduceCtorEq, ↓reduceIte, bkD]
          refine ⟨by omega, getM_nat hx0 ?_⟩
          simp only [vx, vz, Nat.reduceAdd, Nat.reduceSub, Nat.reduceMul, Nat.reduceLeDiff, Nat.reduceLT, Nat.reduceEqDiff, Nat.reduceBEq, Int.reduceToNat, Int.reduceNeg, Int.reduceEq, Int.reduceNe, Int.reduceLE, Int.reduceLT, reduceCtorEq, ↓reduceIte]
          simp only [vx, vz, Nat.reduceAdd, Nat.reduceSub, Nat.reduceMul, Nat.reduceLeDiff, Nat.reduceLT, Nat.reduceEqDiff, Nat.reduceBEq, Int.reduceToNat, Int.reduceNeg, Int.reduceEq, Int.reduceNe, Int.reduceLE, Int.reduceLT, reduceCtorEq, ↓reduceIte, iD]
          refine ⟨by omega, by omega, getM_at hr ?_⟩
          simp only [vx, vz, Nat.reduceAdd, Nat.reduceSub, Nat.reduceMul, Nat.reduceLeDiff, Nat.reduceLT, Nat.reduceEqDiff, Nat.reduceBEq, Int.reduceToNat, Int.reduceNeg, Int.reduceEq, Int.reduceNe, Int.reduceLE, Int.reduceLT, reduceCtorEq, ↓reduceIte]
          simp only [vx, vz, Nat.reduceAdd, Nat.reduceSub, Nat.reduceMul, Nat.reduceLeDiff, Nat.reduceLT, Nat.reduceEqDiff, Nat.reduceBEq, Int.reduceToNat, Int.reduceNeg, Int.reduceEq, Int.reduceNe, Int.reduceLE, Int.reduceLT, reduceCtorEq, ↓reduceIte, Rz.d]
          refine call_p rfl (t17 r okr) ?_
          simp only [vx, vz, Nat.reduceAdd, Nat.reduceSub, Nat.reduceMul, Nat.reduceLeDiff, Nat.reduceLT, Nat.reduceEqDiff, Nat.reduceBEq, Int.reduceToNat, Int.reduceNeg, Int.reduceEq, Int.reduceNe, Int.reduceLE, Int.reduceLT, reduceCtorEq, ↓reduceIte]
          refine ⟨by omega, by omega, getM_at hr0 ?_⟩
          simp only [vx, vz, Nat.reduceAdd, Nat.reduceSub, Nat.reduceMul, Nat.reduceLeDiff, Nat.reduceLT, Nat.reduceEqDiff, Nat.reduceBEq, Int.reduceToNat, Int.reduceNeg, Int.reduceEq, Int.reduceNe, Int.reduceLE, Int.reduceLT, reduceCtorEq, ↓reduceIte]
          simp only [vx, vz, Nat.reduceAdd, Nat.reduceSub, Nat.reduceMul, Nat.reduceLeDiff, Nat.reduceLT, Nat.reduceEqDiff, Nat.reduceBEq, Int.reduceToNat, Int.reduceNeg, Int.reduceEq, Int.reduceNe, Int.reduceLE, Int.reduceLT, reduceCtorEq, ↓reduceIte, Rz.d]
          refine call_p rfl (t17 r0 okr0) ?_
          simp only [vx, vz, Nat.reduceAdd, Nat.reduceSub, Nat.reduceMul, Nat.reduceLeDiff, Nat.reduceLT, Nat.reduceEqDiff, Nat.reduceBEq, Int.reduceToNat, Int.reduceNeg, Int.reduceEq, Int.reduceNe, Int.reduceLE, Int.reduceLT, reduceCtorEq, ↓reduceIte]
          rw [hnam]
          simp only [vx, vz, Nat.reduceAdd, Nat.reduceSub, Nat.reduceMul, Nat.reduceLeDiff, Nat.reduceLT, Nat.reduceEqDiff, Nat.reduceBEq, Int.reduceToNat, Int.reduceNeg, Int.reduceEq, Int.reduceNe, Int.reduceLE, Int.reduceLT, reduceCtorEq, ↓reduceIte]
          refine ls_n (k + 1, X.set x ((i : Int) + 1)) (by simp only; omega) (weak_any ?_) ⟨by simp only; omega, hX.step hp hx⟩
          simp only [vx, vz, Nat.reduceAdd, Nat.reduceSub, Nat.reduceMul, Nat.reduceLeDiff, Nat.reduceLT, Nat.reduceEqDiff, Nat.reduceBEq, Int.reduceToNat, Int.reduceNeg, Int.reduceEq, Int.reduceNe, Int.reduceLE, Int.reduceLT, reduceCtorEq, ↓reduceIte]
          rw [wr_i64 (by omega) (by omega)]
          first | trivial | exact ⟨rfl, rfl⟩
        · simp only [vx, vz, Nat.reduceAdd, Nat.reduceSub, Nat.reduceMul, Nat.reduceLeDiff, Nat.reduceLT, Nat.reduceEqDiff, Nat.reduceBEq, Int.reduceToNat, Int.reduceNeg, Int.reduceEq, Int.reduceNe, Int.reduceLE, Int.reduceLT, reduceCtorEq, ↓reduceIte, df hk0, hXl]
          refine ⟨by omega, by omega, getM_nat hz0 ?_⟩
          simp only [vx, vz, Nat.reduceAdd, Nat.reduceSub, Nat.reduceMul, Nat.reduceLeDiff, Nat.reduceLT, Nat.reduceEqDiff, Nat.reduceBEq, Int.reduceToNat, Int.reduceNeg, Int.reduceEq, Int.reduceNe, Int.reduceLE, Int.reduceLT, reduceCtorEq, ↓reduceIte]
          rw [show (wV X).set x [V.d (.int .i64 (IntKind.i64.wrap ((i : Int) + 1)))] = wV (X.set x ((i : Int) + 1)) by rw [wr_i64 (by omega) (by omega)]; simp [wV, List.map_set]]
          refine ⟨by omega, by omega, getM_at hr ?_⟩
          simp only [vx, vz, Nat.reduceAdd, Nat.reduceSub, Nat.reduceMul, Nat.reduceLeDiff, Nat.reduceLT, Nat.reduceEqDiff, Nat.reduceBEq, Int.reduceToNat, Int.reduceNeg, Int.reduceEq, Int.reduceNe, Int.reduceLE, Int.reduceLT, reduceCtorEq, ↓reduceIte]
          simp only [vx, vz, Nat.reduceAdd, Nat.reduceSub, Nat.reduceMul, Nat.reduceLeDiff, Nat.reduceLT, Nat.reduceEqDiff, Nat.reduceBEq, Int.reduceToNat, Int.reduceNeg, Int.reduceEq, Int.reduceNe, Int.reduceLE, Int.reduceLT, reduceCtorEq, ↓reduceIte, Rz.d]
          refine call_p rfl (t19 l r.sg hl ok okr.2.2) ?_
          simp only [vx, vz, Nat.reduceAdd, Nat.reduceSub, Nat.reduceMul, Nat.reduceLeDiff, Nat.reduceLT, Nat.reduceEqDiff, Nat.reduceBEq, Int.reduceToNat, Int.reduceNeg, Int.reduceEq, Int.reduceNe, Int.reduceLE, Int.reduceLT, reduceCtorEq, ↓reduceIte]
          rw [hfst]
          simp only [vx, vz, Nat.reduceAdd, Nat.reduceSub, Nat.reduceMul, Nat.reduceLeDiff, Nat.reduceLT, Nat.reduceEqDiff, Nat.reduceBEq, Int.reduceToNat, Int.reduceNeg, Int.reduceEq, Int.reduceNe, Int.reduceLE, Int.reduceLT, reduceCtorEq, ↓reduceIte]
          refine c_quiet rfl ?_
          simp only [vx, vz, Nat.reduceAdd, Nat.reduceSub, Nat.reduceMul, Nat.reduceLeDiff, Nat.reduceLT, Nat.reduceEqDiff, Nat.reduceBEq, Int.reduceToNat, Int.reduceNeg, Int.reduceEq, Int.reduceNe, Int.reduceLE, Int.reduceLT, reduceCtorEq, ↓reduceIte]
          refine ⟨by omega, by omega, getM_at hp ?_⟩
          simp only [vx, vz, Nat.reduceAdd, Nat.reduceSub, Nat.reduceMul, Nat.reduceLeDiff, Nat.reduceLT, Nat.reduceEqDiff, Nat.reduceBEq, Int.reduceToNat, Int.reduceNeg, Int.reduceEq, Int.reduceNe, Int.reduceLE, Int.reduceLT, reduceCtorEq, ↓reduceIte]
          simp only [vx, vz, Nat.reduceAdd, Nat.reduceSub, Nat.reduceMul, Nat.reduceLeDiff, Nat.reduceLT, Nat.reduceEqDiff, Nat.reduceBEq, Int.reduceToNat, Int.reduceNeg, Int.reduceEq, Int.reduceNe, Int.reduceLE, Int.reduceLT, reduceCtorEq, ↓reduceIte, bkD]
          refine ⟨by omega, getM_nat hx0 ?_⟩
          simp only [vx, vz, Nat.reduceAdd, Nat.reduceSub, Nat.reduceMul, Nat.reduceLeDiff, Nat.reduceLT, Nat.reduceEqDiff, Nat.reduceBEq, Int.reduceToNat, Int.reduceNeg, Int.reduceEq, Int.reduceNe, Int.reduceLE, Int.reduceLT, reduceCtorEq, ↓reduceIte]
          simp only [vx, vz, Nat.reduceAdd, Nat.reduceSub, Nat.reduceMul, Nat.reduceLeDiff, Nat.reduceLT, Nat.reduceEqDiff, Nat.reduceBEq, Int.reduceToNat, Int.reduceNeg, Int.reduceEq, Int.reduceNe, Int.reduceLE, Int.reduceLT, reduceCtorEq, ↓reduceIte, iD]
          refine ⟨by omega, by omega, getM_at hr ?_⟩
          simp only [vx, vz, Nat.reduceAdd, Nat.reduceSub, Nat.reduceMul, Nat.reduceLeDiff, Nat.reduceLT, Nat.reduceEqDiff, Nat.reduceBEq, Int.reduceToNat, Int.reduceNeg, Int.reduceEq, Int.reduceNe, Int.reduceLE, Int.reduceLT, reduceCtorEq, ↓reduceIte]
          simp only [vx, vz, Nat.reduceAdd, Nat.reduceSub, Nat.reduceMul, Nat.reduceLeDiff, Nat.reduceLT, Nat.reduceEqDiff, Nat.reduceBEq, Int.reduceToNat, Int.reduceNeg, Int.reduceEq, Int.reduceNe, Int.reduceLE, Int.reduceLT, reduceCtorEq, ↓reduceIte, Rz.d]
          refine call_p rfl (t17 r okr) ?_
          simp only [vx, vz, Nat.reduceAdd, Nat.reduceSub, Nat.reduceMul, Nat.reduceLeDiff, Nat.reduceLT, Nat.reduceEqDiff, Nat.reduceBEq, Int.reduceToNat, Int.reduceNeg, Int.reduceEq, Int.reduceNe, Int.reduceLE, Int.reduceLT, reduceCtorEq, ↓reduceIte]
          refine ⟨by omega, by omega, getM_at hr0 ?_⟩
          simp only [vx, vz, Nat.reduceAdd, Nat.reduceSub, Nat.reduceMul, Nat.reduceLeDiff, Nat.reduceLT, Nat.reduceEqDiff, Nat.reduceBEq, Int.reduceToNat, Int.reduceNeg, Int.reduceEq, Int.reduceNe, Int.reduceLE, Int.reduceLT, reduceCtorEq, ↓reduceIte]
          simp only [vx, vz, Nat.reduceAdd, Nat.reduceSub, Nat.reduceMul, Nat.reduceLeDiff, Nat.reduceLT, Nat.reduceEqDiff, Nat.reduceBEq, Int.reduceToNat, Int.reduceNeg, Int.reduceEq, Int.reduceNe, Int.reduceLE, Int.reduceLT, reduceCtorEq, ↓reduceIte, Rz.d]
          refine call_p rfl (t17 r0 okr0) ?_
          simp only [vx, vz, Nat.reduceAdd, Nat.reduceSub, Nat.reduceMul, Nat.reduceLeDiff, Nat.reduceLT, Nat.reduceEqDiff, Nat.reduceBEq, Int.reduceToNat, Int.reduceNeg, Int.reduceEq, Int.reduceNe, Int.reduceLE, Int.reduceLT, reduceCtorEq, ↓reduceIte]
          rw [hnam]
          simp only [vx, vz, Nat.reduceAdd, Nat.reduceSub, Nat.reduceMul, Nat.reduceLeDiff, Nat.reduceLT, Nat.reduceEqDiff, Nat.reduceBEq, Int.reduceToNat, Int.reduceNeg, Int.reduceEq, Int.reduceNe, Int.reduceLE, Int.reduceLT, reduceCtorEq, ↓reduceIte]
          refine ls_n (k + 1, X.set x ((i : Int) + 1)) (by simp only; omega) (weak_any ?_) ⟨by simp only; omega, hX.step hp hx⟩
          simp only [vx, vz, Nat.reduceAdd, Nat.reduceSub, Nat.reduceMul, Nat.reduceLeDiff, Nat.reduceLT, Nat.reduceEqDiff, Nat.reduceBEq, Int.reduceToNat, Int.reduceNeg, Int.reduceEq, Int.reduceNe, Int.reduceLE, Int.reduceLT, reduceCtorEq, ↓reduceIte]
          rw [wr_i64 (by omega) (by omega)]
          first | trivial | exact ⟨rfl, rfl⟩
      · simp only [decide_eq_false_iff_not] at hc2
        have hW2 := hX.next hp (by omega)
        simp only [vx, vz, Nat.reduceAdd, Nat.reduceSub, Nat.reduceMul, Nat.reduceLeDiff, Nat.reduceLT, Nat.reduceEqDiff, Nat.reduceBEq, Int.reduceToNat, Int.reduceNeg, Int.reduceEq, Int.reduceNe, Int.reduceLE, Int.reduceLT, reduceCtorEq, ↓reduceIte]
        refine ls_n (i + 1, X) (by simp only; omega) (weak_any ?_) ⟨by simp only; omega, hW2⟩
        simp only [vx, vz, Nat.reduceAdd, Nat.reduceSub, Nat.reduceMul, Nat.reduceLeDiff, Nat.reduceLT, Nat.reduceEqDiff, Nat.reduceBEq, Int.reduceToNat, Int.reduceNeg, Int.reduceEq, Int.reduceNe, Int.reduceLE, Int.reduceLT, reduceCtorEq, ↓reduceIte]
        rw [wr_i64 (by omega) (by omega)]
        first | trivial | exact ⟨rfl, rfl⟩
    · simp only [decide_eq_false_iff_not] at hc
      have hfin := fun (x : Nat) (r : Rz) (hr : l[x]? = some r) => hW.fin (by omega) hr
      simp only [vx, vz, Nat.reduceAdd, Nat.reduceSub, Nat.reduceMul, Nat.reduceLeDiff, Nat.reduceLT, Nat.reduceEqDiff, Nat.reduceBEq, Int.reduceToNat, Int.reduceNeg, Int.reduceEq, Int.reduceNe, Int.reduceLE, Int.reduceLT, reduceCtorEq, ↓reduceIte]
      refine loop_st (fun a : Nat => ⟨mkF 178 [(0, rzL l), (3, .osl 1 0 l.length 0 l.length), (10, .d (.int .i64 a))], [.live 1 (wV W)]⟩) (fun a => a ≤ l.length) (fun a => l.length - a) 0 (weak_any (by simp only [vx, vz, Nat.reduceAdd, Nat.reduceSub, Nat.reduceMul, Nat.reduceLeDiff, Nat.reduceLT, Nat.reduceEqDiff, Nat.reduceBEq, Int.reduceToNat, Int.reduceNeg, Int.reduceEq, Int.reduceNe, Int.reduceLE, Int.reduceLT, reduceCtorEq, ↓reduceIte]; try trivial)) (by omega) (fun a ha => ?_)
      simp only [vx, vz, Nat.reduceAdd, Nat.reduceSub, Nat.reduceMul, Nat.reduceLeDiff, Nat.reduceLT, Nat.reduceEqDiff, Nat.reduceBEq, Int.reduceToNat, Int.reduceNeg, Int.reduceEq, Int.reduceNe, Int.reduceLE, Int.reduceLT, reduceCtorEq, ↓reduceIte]
      refine cond_split (fun hc3 => ?_) (fun hc3 => ?_)
      · simp only [decide_eq_true_eq] at hc3
        obtain ⟨x, hx⟩ := get_ex (l := l) (i := a) (by omega)
        have okx := ok x (List.mem_of_getElem? hx)
        obtain ⟨wx, hwx, hpos, hfx⟩ : ∃ wx : Int, W[a]? = some wx ∧ decide (0 < wx) = fldS x ∧ 0 ≤ wx := by
          rcases hfin a x hx with ⟨h1, j, p, h2, h3, h4⟩ | ⟨h1, h2⟩
          · exact ⟨_, h4, by rw [h1]; exact dt (by omega), by omega⟩
          · exact ⟨_, h2, by rw [h1]; rfl, by omega⟩
        simp only [vx, vz, Nat.reduceAdd, Nat.reduceSub, Nat.reduceMul, Nat.reduceLeDiff, Nat.reduceLT, Nat.reduceEqDiff, Nat.reduceBEq, Int.reduceToNat, Int.reduceNeg, Int.reduceEq, Int.reduceNe, Int.reduceLE, Int.reduceLT, reduceCtorEq, ↓reduceIte, hWl]
        refine c_quiet rfl ?_
        simp only [vx, vz, Nat.reduceAdd, Nat.reduceSub, Nat.reduceMul, Nat.reduceLeDiff, Nat.reduceLT, Nat.reduceEqDiff, Nat.reduceBEq, Int.reduceToNat, Int.reduceNeg, Int.reduceEq, Int.reduceNe, Int.reduceLE, Int.reduceLT, reduceCtorEq, ↓reduceIte, hWl]
        refine ⟨by omega, by omega, getM_nat hwx ?_⟩
        simp only [vx, vz, Nat.reduceAdd, Nat.reduceSub, Nat.reduceMul, Nat.reduceLeDiff, Nat.reduceLT, Nat.reduceEqDiff, Nat.reduceBEq, Int.reduceToNat, Int.reduceNeg, Int.reduceEq, Int.reduceNe, Int.reduceLE, Int.reduceLT, reduceCtorEq, ↓reduceIte, hpos]
        refine ⟨by omega, by omega, getM_at hx ?_⟩
        simp only [vx, vz, Nat.reduceAdd, Nat.reduceSub, Nat.reduceMul, Nat.reduceLeDiff, Nat.reduceLT, Nat.reduceEqDiff, Nat.reduceBEq, Int.reduceToNat, Int.reduceNeg, Int.reduceEq, Int.reduceNe, Int.reduceLE, Int.reduceLT, reduceCtorEq, ↓reduceIte]
        simp only [vx, vz, Nat.reduceAdd, Nat.reduceSub, Nat.reduceMul, Nat.reduceLeDiff, Nat.reduceLT, Nat.reduceEqDiff, Nat.reduceBEq, Int.reduceToNat, Int.reduceNeg, Int.reduceEq, Int.reduceNe, Int.reduceLE, Int.reduceLT, reduceCtorEq, ↓reduceIte, Rz.d]
        refine call_p rfl (t13 x okx) ?_
        simp only [vx, vz, Nat.reduceAdd, Nat.reduceSub, Nat.reduceMul, Nat.reduceLeDiff, Nat.reduceLT, Nat.reduceEqDiff, Nat.reduceBEq, Int.reduceToNat, Int.reduceNeg, Int.reduceEq, Int.reduceNe, Int.reduceLE, Int.reduceLT, reduceCtorEq, ↓reduceIte]
        cases hv : vldS x with
        | false =>
          have hff : fldS x = false := by rw [fldS, hv]; rfl
          simp only [vx, vz, Nat.reduceAdd, Nat.reduceSub, Nat.reduceMul, Nat.reduceLeDiff, Nat.reduceLT, Nat.reduceEqDiff, Nat.reduceBEq, Int.reduceToNat, Int.reduceNeg, Int.reduceEq, Int.reduceNe, Int.reduceLE, Int.reduceLT, reduceCtorEq, ↓reduceIte, hff]
          refine loop_st (fun b : Nat => ⟨mkF 178 [(0, rzL l), (3, .osl 1 0 l.length 0 l.length), (10, .d (.int .i64 a)), (11, .d (.int .i64 b))], [.live 1 (wV W)]⟩) (fun b => b ≤ l.length) (fun b => l.length - b) 0 (weak_any (by simp only [vx, vz, Nat.reduceAdd, Nat.reduceSub, Nat.reduceMul, Nat.reduceLeDiff, Nat.reduceLT, Nat.reduceEqDiff, Nat.reduceBEq, Int.reduceToNat, Int.reduceNeg, Int.reduceEq, Int.reduceNe, Int.reduceLE, Int.reduceLT, reduceCtorEq, ↓reduceIte]; try trivial)) (by omega) (fun b hb => ?_)
          simp only [vx, vz, Nat.reduceAdd, Nat.reduceSub, Nat.reduceMul, Nat.reduceLeDiff, Nat.reduceLT, Nat.reduceEqDiff, Nat.reduceBEq, Int.reduceToNat, Int.reduceNeg, Int.reduceEq, Int.reduceNe, Int.reduceLE, Int.reduceLT, reduceCtorEq, ↓reduceIte]
          refine cond_split (fun hc4 => ?_) (fun hc4 => ?_)
          · simp only [decide_eq_true_eq] at hc4
            obtain ⟨y, hy⟩ := get_ex (l := l) (i := b) (by omega)
            have oky := ok y (List.mem_of_getElem? hy)
            obtain ⟨wy, hwy⟩ := get_ex (l := W) (i := b) (by omega)
            have hsam := sam_where hW (by omega) hx hy hwx hwy
            simp only [vx, vz, Nat.reduceAdd, Nat.reduceSub, Nat.reduceMul, Nat.reduceLeDiff, Nat.reduceLT, Nat.reduceEqDiff, Nat.reduceBEq, Int.reduceToNat, Int.reduceNeg, Int.reduceEq, Int.reduceNe, Int.reduceLE, Int.reduceLT, reduceCtorEq, ↓reduceIte]
            refine c_quiet rfl ?_
            simp only [vx, vz, Nat.reduceAdd, Nat.reduceSub, Nat.reduceMul, Nat.reduceLeDiff, Nat.reduceLT, Nat.reduceEqDiff, Nat.reduceBEq, Int.reduceToNat, Int.reduceNeg, Int.reduceEq, Int.reduceNe, Int.reduceLE, Int.reduceLT, reduceCtorEq, ↓reduceIte]
            refine ⟨by omega, by omega, getM_at hx ?_⟩
            simp only [vx, vz, Nat.reduceAdd, Nat.reduceSub, Nat.reduceMul, Nat.reduceLeDiff, Nat.reduceLT, Nat.reduceEqDiff, Nat.reduceBEq, Int.reduceToNat, Int.reduceNeg, Int.reduceEq, Int.reduceNe, Int.reduceLE, Int.reduceLT, reduceCtorEq, ↓reduceIte]
            simp only [vx, vz, Nat.reduceAdd, Nat.reduceSub, Nat.reduceMul, Nat.reduceLeDiff, Nat.reduceLT, Nat.reduceEqDiff, Nat.reduceBEq, Int.reduceToNat, Int.reduceNeg, Int.reduceEq, Int.reduceNe, Int.reduceLE, Int.reduceLT, reduceCtorEq, ↓reduceIte, Rz.d]
            refine ⟨by omega, by omega, getM_at hy ?_⟩
            simp only [vx, vz, Nat.reduceAdd, Nat.reduceSub, Nat.reduceMul, Nat.reduceLeDiff, Nat.reduceLT, Nat.reduceEqDiff, Nat.reduceBEq, Int.reduceToNat, Int.reduceNeg, Int.reduceEq, Int.reduceNe, Int.reduceLE, Int.reduceLT, reduceCtorEq, ↓reduceIte]
            simp only [vx, vz, Nat.reduceAdd, Nat.reduceSub, Nat.reduceMul, Nat.reduceLeDiff, Nat.reduceLT, Nat.reduceEqDiff, Nat.reduceBEq, Int.reduceToNat, Int.reduceNeg, Int.reduceEq, Int.reduceNe, Int.reduceLE, Int.reduceLT, reduceCtorEq, ↓reduceIte, Rz.d]
            refine call_p rfl (t21 x y okx oky) ?_
            simp only [vx, vz, Nat.reduceAdd, Nat.reduceSub, Nat.reduceMul, Nat.reduceLeDiff, Nat.reduceLT, Nat.reduceEqDiff, Nat.reduceBEq, Int.reduceToNat, Int.reduceNeg, Int.reduceEq, Int.reduceNe, Int.reduceLE, Int.reduceLT, reduceCtorEq, ↓reduceIte]
            rw [hsam]
            simp only [vx, vz, Nat.reduceAdd, Nat.reduceSub, Nat.reduceMul, Nat.reduceLeDiff, Nat.reduceLT, Nat.reduceEqDiff, Nat.reduceBEq, Int.reduceToNat, Int.reduceNeg, Int.reduceEq, Int.reduceNe, Int.reduceLE, Int.reduceLT, reduceCtorEq, ↓reduceIte, hWl]
            refine ⟨by omega, by omega, getM_nat hwx ?_⟩
            simp only [vx, vz, Nat.reduceAdd, Nat.reduceSub, Nat.reduceMul, Nat.reduceLeDiff, Nat.reduceLT, Nat.reduceEqDiff, Nat.reduceBEq, Int.reduceToNat, Int.reduceNeg, Int.reduceEq, Int.reduceNe, Int.reduceLE, Int.reduceLT, reduceCtorEq, ↓reduceIte, hpos]
            have stp : ∀ {S : St}, Weak 0 S ⟨mkF 178 [(0, rzL l), (3, .osl 1 0 l.length 0 l.length), (10, .d (.int .i64 a)), (11, .d (.int .i64 (b + 1 : Nat)))], [.live 1 (wV W)]⟩ → Weak 0 S ⟨mkF 178 [(0, rzL l), (3, .osl 1 0 l.length 0 l.length), (10, .d (.int .i64 a)), (11, .d (.int .i64 (b + 1 : Nat)))], [.live 1 (wV W)]⟩ := fun h => h
            cases hfx2 : fldS x with
            | false =>
              simp only [vx, vz, Nat.reduceAdd, Nat.reduceSub, Nat.reduceMul, Nat.reduceLeDiff, Nat.reduceLT, Nat.reduceEqDiff, Nat.reduceBEq, Int.reduceToNat, Int.reduceNeg, Int.reduceEq, Int.reduceNe, Int.reduceLE, Int.reduceLT, reduceCtorEq, ↓reduceIte, Bool.false_and]
              refine ls_n (b + 1) (by omega) (weak_any ?_) (by omega)
              simp only [vx, vz, Nat.reduceAdd, Nat.reduceSub, Nat.reduceMul, Nat.reduceLeDiff, Nat.reduceLT, Nat.reduceEqDiff, Nat.reduceBEq, Int.reduceToNat, Int.reduceNeg, Int.reduceEq, Int.reduceNe, Int.reduceLE, Int.reduceLT, reduceCtorEq, ↓reduceIte]
              rw [wr_i64 (by omega) (by omega)]
              first | trivial | exact ⟨rfl, rfl⟩
            | true =>
              simp only [vx, vz, Nat.reduceAdd, Nat.reduceSub, Nat.reduceMul, Nat.reduceLeDiff, Nat.reduceLT, Nat.reduceEqDiff, Nat.reduceBEq, Int.reduceToNat, Int.reduceNeg, Int.reduceEq, Int.reduceNe, Int.reduceLE, Int.reduceLT, reduceCtorEq, ↓reduceIte, hWl]
              refine ⟨by omega, by omega, getM_nat hwx ?_⟩
              simp only [vx, vz, Nat.reduceAdd, Nat.reduceSub, Nat.reduceMul, Nat.reduceLeDiff, Nat.reduceLT, Nat.reduceEqDiff, Nat.reduceBEq, Int.reduceToNat, Int.reduceNeg, Int.reduceEq, Int.reduceNe, Int.reduceLE, Int.reduceLT, reduceCtorEq, ↓reduceIte, hWl]
              refine ⟨by omega, by omega, getM_nat hwy ?_⟩
              simp only [vx, vz, Nat.reduceAdd, Nat.reduceSub, Nat.reduceMul, Nat.reduceLeDiff, Nat.reduceLT, Nat.reduceEqDiff, Nat.reduceBEq, Int.reduceToNat, Int.reduceNeg, Int.reduceEq, Int.reduceNe, Int.reduceLE, Int.reduceLT, reduceCtorEq, ↓reduceIte]
              refine ls_n (b + 1) (by omega) (weak_any ?_) (by omega)
              simp only [vx, vz, Nat.reduceAdd, Nat.reduceSub, Nat.reduceMul, Nat.reduceLeDiff, Nat.reduceLT, Nat.reduceEqDiff, Nat.reduceBEq, Int.reduceToNat, Int.reduceNeg, Int.reduceEq, Int.reduceNe, Int.reduceLE, Int.reduceLT, reduceCtorEq, ↓reduceIte]
              rw [wr_i64 (by omega) (by omega)]
              first | trivial | exact ⟨rfl, rfl⟩
          · simp only [decide_eq_false_iff_not] at hc4
            simp only [vx, vz, Nat.reduceAdd, Nat.reduceSub, Nat.reduceMul, Nat.reduceLeDiff, Nat.reduceLT, Nat.reduceEqDiff, Nat.reduceBEq, Int.reduceToNat, Int.reduceNeg, Int.reduceEq, Int.reduceNe, Int.reduceLE, Int.reduceLT, reduceCtorEq, ↓reduceIte]
            refine ls_n (a + 1) (by omega) (weak_any ?_) (by omega)
            simp only [vx, vz, Nat.reduceAdd, Nat.reduceSub, Nat.reduceMul, Nat.reduceLeDiff, Nat.reduceLT, Nat.reduceEqDiff, Nat.reduceBEq, Int.reduceToNat, Int.reduceNeg, Int.reduceEq, Int.reduceNe, Int.reduceLE, Int.reduceLT, reduceCtorEq, ↓reduceIte]
            rw [wr_i64 (by omega) (by omega)]
            first | trivial | exact ⟨rfl, rfl⟩
        | true =>
          simp only [vx, vz, Nat.reduceAdd, Nat.reduceSub, Nat.reduceMul, Nat.reduceLeDiff, Nat.reduceLT, Nat.reduceEqDiff, Nat.reduceBEq, Int.reduceToNat, Int.reduceNeg, Int.reduceEq, Int.reduceNe, Int.reduceLE, Int.reduceLT, reduceCtorEq, ↓reduceIte]
          refine ⟨by omega, by omega, getM_at hx ?_⟩
          simp only [vx, vz, Nat.reduceAdd, Nat.reduceSub, Nat.reduceMul, Nat.reduceLeDiff, Nat.reduceLT, Nat.reduceEqDiff, Nat.reduceBEq, Int.reduceToNat, Int.reduceNeg, Int.reduceEq, Int.reduceNe, Int.reduceLE, Int.reduceLT, reduceCtorEq, ↓reduceIte]
          simp only [vx, vz, Nat.reduceAdd, Nat.reduceSub, Nat.reduceMul, Nat.reduceLeDiff, Nat.reduceLT, Nat.reduceEqDiff, Nat.reduceBEq, Int.reduceToNat, Int.reduceNeg, Int.reduceEq, Int.reduceNe, Int.reduceLE, Int.reduceLT, reduceCtorEq, ↓reduceIte, Rz.d]
          have hff : (!decide (x.sg = [])) = fldS x := by rw [fldS, hv, not_nil]; rfl
          refine call_p rfl (t15 x) ?_
          simp only [vx, vz, Nat.reduceAdd, Nat.reduceSub, Nat.reduceMul, Nat.reduceLeDiff, Nat.reduceLT, Nat.reduceEqDiff, Nat.reduceBEq, Int.reduceToNat, Int.reduceNeg, Int.reduceEq, Int.reduceNe, Int.reduceLE, Int.reduceLT, reduceCtorEq, ↓reduceIte, hff]
          refine loop_st (fun b : Nat => ⟨mkF 178 [(0, rzL l), (3, .osl 1 0 l.length 0 l.length), (10, .d (.int .i64 a)), (11, .d (.int .i64 b))], [.live 1 (wV W)]⟩) (fun b => b ≤ l.length) (fun b => l.length - b) 0 (weak_any (by simp only [vx, vz, Nat.reduceAdd, Nat.reduceSub, Nat.reduceMul, Nat.reduceLeDiff, Nat.reduceLT, Nat.reduceEqDiff, Nat.reduceBEq, Int.reduceToNat, Int.reduceNeg, Int.reduceEq, Int.reduceNe, Int.reduceLE, Int.reduceLT, reduceCtorEq, ↓reduceIte]; try trivial)) (by omega) (fun b hb => ?_)
          simp only [vx, vz, Nat.reduceAdd, Nat.reduceSub, Nat.reduceMul, Nat.reduceLeDiff, Nat.reduceLT, Nat.reduceEqDiff, Nat.reduceBEq, Int.reduceToNat, Int.reduceNeg, Int.reduceEq, Int.reduceNe, Int.reduceLE, Int.reduceLT, reduceCtorEq, ↓reduceIte]
          refine cond_split (fun hc4 => ?_) (fun hc4 => ?_)
          · simp only [decide_eq_true_eq] at hc4
            obtain ⟨y, hy⟩ := get_ex (l := l) (i := b) (by omega)
            have oky := ok y (List.mem_of_getElem? hy)
            obtain ⟨wy, hwy⟩ := get_ex (l := W) (i := b) (by omega)
            have hsam := sam_where hW (by omega) hx hy hwx hwy
            simp only [vx, vz, Nat.reduceAdd, Nat.reduceSub, Nat.reduceMul, Nat.reduceLeDiff, Nat.reduceLT, Nat.reduceEqDiff, Nat.reduceBEq, Int.reduceToNat, Int.reduceNeg, Int.reduceEq, Int.reduceNe, Int.reduceLE, Int.reduceLT, reduceCtorEq, ↓reduceIte]
            refine c_quiet rfl ?_
            simp only [vx, vz, Nat.reduceAdd, Nat.reduceSub, Nat.reduceMul, Nat.reduceLeDiff, Nat.reduceLT, Nat.reduceEqDiff, Nat.reduceBEq, Int.reduceToNat, Int.reduceNeg, Int.reduceEq, Int.reduceNe, Int.reduceLE, Int.reduceLT, reduceCtorEq, ↓reduceIte]
            refine ⟨by omega, by omega, getM_at hx ?_⟩
            simp only [vx, vz, Nat.reduceAdd, Nat.reduceSub, Nat.reduceMul, Nat.reduceLeDiff, Nat.reduceLT, Nat.reduceEqDiff, Nat.reduceBEq, Int.reduceToNat, Int.reduceNeg, Int.reduceEq, Int.reduceNe, Int.reduceLE, Int.reduceLT, reduceCtorEq, ↓reduceIte]
            simp only [vx, vz, Nat.reduceAdd, Nat.reduceSub, Nat.reduceMul, Nat.reduceLeDiff, Nat.reduceLT, Nat.reduceEqDiff, Nat.reduceBEq, Int.reduceToNat, Int.reduceNeg, Int.reduceEq, Int.reduceNe, Int.reduceLE, Int.reduceLT, reduceCtorEq, ↓reduceIte, Rz.d]
            refine ⟨by omega, by omega, getM_at hy ?_⟩
            simp only [vx, vz, Nat.reduceAdd, Nat.reduceSub, Nat.reduceMul, Nat.reduceLeDiff, Nat.reduceLT, Nat.reduceEqDiff, Nat.reduceBEq, Int.reduceToNat, Int.reduceNeg, Int.reduceEq, Int.reduceNe, Int.reduceLE, Int.reduceLT, reduceCtorEq, ↓reduceIte]
            simp only [vx, vz, Nat.reduceAdd, Nat.reduceSub, Nat.reduceMul, Nat.reduceLeDiff, Nat.reduceLT, Nat.reduceEqDiff, Nat.reduceBEq, Int.reduceToNat, Int.reduceNeg, Int.reduceEq, Int.reduceNe, Int.reduceLE, Int.reduceLT, reduceCtorEq, ↓reduceIte, Rz.d]
            refine call_p rfl (t21 x y okx oky) ?_
            simp only [vx, vz, Nat.reduceAdd, Nat.reduceSub, Nat.reduceMul, Nat.reduceLeDiff, Nat.reduceLT, Nat.reduceEqDiff, Nat.reduceBEq, Int.reduceToNat, Int.reduceNeg, Int.reduceEq, Int.reduceNe, Int.reduceLE, Int.reduceLT, reduceCtorEq, ↓reduceIte]
            rw [hsam]
            simp only [vx, vz, Nat.reduceAdd, Nat.reduceSub, Nat.reduceMul, Nat.reduceLeDiff, Nat.reduceLT, Nat.reduceEqDiff, Nat.reduceBEq, Int.reduceToNat, Int.reduceNeg, Int.reduceEq, Int.reduceNe, Int.reduceLE, Int.reduceLT, reduceCtorEq, ↓reduceIte, hWl]
            refine ⟨by omega, by omega, getM_nat hwx ?_⟩
            simp only [vx, vz, Nat.reduceAdd, Nat.reduceSub, Nat.reduceMul, Nat.reduceLeDiff, Nat.reduceLT, Nat.reduceEqDiff, Nat.reduceBEq, Int.reduceToNat, Int.reduceNeg, Int.reduceEq, Int.reduceNe, Int.reduceLE, Int.reduceLT, reduceCtorEq, ↓reduceIte, hpos]
            have stp : ∀ {S : St}, Weak 0 S ⟨mkF 178 [(0, rzL l), (3, .osl 1 0 l.length 0 l.length), (10, .d (.int .i64 a)), (11, .d (.int .i64 (b + 1 : Nat)))], [.live 1 (wV W)]⟩ → Weak 0 S ⟨mkF 178 [(0, rzL l), (3, .osl 1 0 l.length 0 l.length), (10, .d (.int .i64 a)), (11, .d (.int .i64 (b + 1 : Nat)))], [.live 1 (wV W)]⟩ := fun h => h
            cases hfx2 : fldS x with
            | false =>
              simp only [vx, vz, Nat.reduceAdd, Nat.reduceSub, Nat.reduceMul, Nat.reduceLeDiff, Nat.reduceLT, Nat.reduceEqDiff, Nat.reduceBEq, Int.reduceToNat, Int.reduceNeg, Int.reduceEq, Int.reduceNe, Int.reduceLE, Int.reduceLT, reduceCtorEq, ↓reduceIte, Bool.false_and]
              refine ls_n (b + 1) (by omega) (weak_any ?_) (by omega)
              simp only [vx, vz, Nat.reduceAdd, Nat.reduceSub, Nat.reduceMul, Nat.reduceLeDiff, Nat.reduceLT, Nat.reduceEqDiff, Nat.reduceBEq, Int.reduceToNat, Int.reduceNeg, Int.reduceEq, Int.reduceNe, Int.reduceLE, Int.reduceLT, reduceCtorEq, ↓reduceIte]
              rw [wr_i64 (by omega) (by omega)]
              first | trivial | exact ⟨rfl, rfl⟩
            | true =>
              simp only [vx, vz, Nat.reduceAdd, Nat.reduceSub, Nat.reduceMul, Nat.reduceLeDiff, Nat.reduceLT, Nat.reduceEqDiff, Nat.reduceBEq, Int.reduceToNat, Int.reduceNeg, Int.reduceEq, Int.reduceNe, Int.reduceLE, Int.reduceLT, reduceCtorEq, ↓reduceIte, hWl]
              refine ⟨by omega, by omega, getM_nat hwx ?_⟩
              simp only [vx, vz, Nat.reduceAdd, Nat.reduceSub, Nat.reduceMul, Nat.reduceLeDiff, Nat.reduceLT, Nat.reduceEqDiff, Nat.reduceBEq, Int.reduceToNat, Int.reduceNeg, Int.reduceEq, Int.reduceNe, Int.reduceLE, Int.reduceLT, reduceCtorEq, ↓reduceIte, hWl]
              refine ⟨by omega, by omega, getM_nat hwy ?_⟩
              simp only [vx, vz, Nat.reduceAdd, Nat.reduceSub, Nat.reduceMul, Nat.reduceLeDiff, Nat.reduceLT, Nat.reduceEqDiff, Nat.reduceBEq, Int.reduceToNat, Int.reduceNeg, Int.reduceEq, Int.reduceNe, Int.reduceLE, Int.reduceLT, reduceCtorEq, ↓reduceIte]
              refine ls_n (b + 1) (by omega) (weak_any ?_) (by omega)
              simp only [vx, vz, Nat.reduceAdd, Nat.reduceSub, Nat.reduceMul, Nat.reduceLeDiff, Nat.reduceLT, Nat.reduceEqDiff, Nat.reduceBEq, Int.reduceToNat, Int.reduceNeg, Int.reduceEq, Int.reduceNe, Int.reduceLE, Int.reduceLT, reduceCtorEq, ↓reduceIte]
              rw [wr_i64 (by omega) (by omega)]
              first | trivial | exact ⟨rfl, rfl⟩
          · simp only [decide_eq_false_iff_not] at hc4
            simp only [vx, vz, Nat.reduceAdd, Nat.reduceSub, Nat.reduceMul, Nat.reduceLeDiff, Nat.reduceLT, Nat.reduceEqDiff, Nat.reduceBEq, Int.reduceToNat, Int.reduceNeg, Int.reduceEq, Int.reduceNe, Int.reduceLE, Int.reduceLT, reduceCtorEq, ↓reduceIte]
            refine ls_n (a + 1) (by omega) (weak_any ?_) (by omega)
            simp only [vx, vz, Nat.reduceAdd, Nat.reduceSub, Nat.reduceMul, Nat.reduceLeDiff, Nat.reduceLT, Nat.reduceEqDiff, Nat.reduceBEq, Int.reduceToNat, Int.reduceNeg, Int.reduceEq, Int.reduceNe, Int.reduceLE, Int.reduceLT, reduceCtorEq, ↓reduceIte]
            rw [wr_i64 (by omega) (by omega)]
            first | trivial | exact ⟨rfl, rfl⟩
      · simp only [decide_eq_false_iff_not] at hc3
        simp only [vx, vz, Nat.reduceAdd, Nat.reduceSub, Nat.reduceMul, Nat.reduceLeDiff, Nat.reduceLT, Nat.reduceEqDiff, Nat.reduceBEq, Int.reduceToNat, Int.reduceNeg, Int.reduceEq, Int.reduceNe, Int.reduceLE, Int.reduceLT, reduceCtorEq, ↓reduceIte]
        refine call_p rfl (t10) ?_
        simp only [vx, vz, Nat.reduceAdd, Nat.reduceSub, Nat.reduceMul, Nat.reduceLeDiff, Nat.reduceLT, Nat.reduceEqDiff, Nat.reduceBEq, Int.reduceToNat, Int.reduceNeg, Int.reduceEq, Int.reduceNe, Int.reduceLE, Int.reduceLT, reduceCtorEq, ↓reduceIte]
end Go.Proofs.Sg
