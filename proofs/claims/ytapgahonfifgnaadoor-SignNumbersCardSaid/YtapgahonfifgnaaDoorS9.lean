import Derived.Test.YtapgahonfifgnaaDoorS
set_option linter.unusedSimpArgs false
set_option linter.unusedVariables false
namespace Go.Proofs.Sg
open Go.Vx
def smaR (r : Rz) : Bool := !(decide (60 < (r.sg.length : Int)) || (decide (60 < (r.te.length : Int)) || decide (60 < (r.de.length : Int))))
def fewS (l : List Rz) : Bool := (l.take 31).all smaR && decide (l.length ≤ 30)
theorem take31 {l : List Rz} {i : Nat} {x : Rz} (h : l[i]? = some x) (hi : i < 31) : (l.take 31)[i]? = some x := by
  rw [List.getElem?_take, if_pos hi]; exact h
theorem t9 (l : List Rz) (hl : l.length ≤ maxLen) : CallP Tryd.prog 9 [rzL l] (.d (.bool (fewS l))) := by
  have hm := hm
  refine go9 ac9 rfl ?_
  simp only [vx, vz, Nat.reduceAdd, Nat.reduceSub, Nat.reduceMul, Nat.reduceLeDiff, Nat.reduceLT, Nat.reduceEqDiff, Nat.reduceBEq, Int.reduceToNat, Int.reduceNeg, Int.reduceEq, Int.reduceNe, Int.reduceLE, Int.reduceLT, reduceCtorEq, ↓reduceIte, ac9]
  refine loop_st (fun i : Nat => ⟨mkF 42 [(0, rzL l), (3, .d (.int .i64 i))], []⟩) (fun i => i ≤ l.length ∧ i ≤ 31 ∧ (l.take 31).all smaR = ((l.take 31).drop i).all smaR) (fun i => l.length - i) 0 (weak_any (by simp only [vx, vz, Nat.reduceAdd, Nat.reduceSub, Nat.reduceMul, Nat.reduceLeDiff, Nat.reduceLT, Nat.reduceEqDiff, Nat.reduceBEq, Int.reduceToNat, Int.reduceNeg, Int.reduceEq, Int.reduceNe, Int.reduceLE, Int.reduceLT, reduceCtorEq, ↓reduceIte]; try trivial)) (by simp) (fun i hi => ?_)
  obtain ⟨h1, h3, h2⟩ := hi
  simp only [vx, vz, Nat.reduceAdd, Nat.reduceSub, Nat.reduceMul, Nat.reduceLeDiff, Nat.reduceLT, Nat.reduceEqDiff, Nat.reduceBEq, Int.reduceToNat, Int.reduceNeg, Int.reduceEq, Int.reduceNe, Int.reduceLE, Int.reduceLT, reduceCtorEq, ↓reduceIte]
  have fin : ¬ i < (l.take 31).length → fewS l = decide (l.length ≤ 30) := fun h => by
    rw [fewS, h2, drop_end (by omega), List.all_nil, Bool.true_and]
  have e30 : decide ((l.length : Int) ≤ 30) = decide (l.length ≤ 30) := decide_eq_decide.2 (by omega)
  by_cases hc : (i : Int) < l.length
  · by_cases h31 : (i : Int) < 31
    · simp only [vx, vz, Nat.reduceAdd, Nat.reduceSub, Nat.reduceMul, Nat.reduceLeDiff, Nat.reduceLT, Nat.reduceEqDiff, Nat.reduceBEq, Int.reduceToNat, Int.reduceNeg, Int.reduceEq, Int.reduceNe, Int.reduceLE, Int.reduceLT, reduceCtorEq, ↓reduceIte, dt hc, dt h31]
      obtain ⟨x, hx⟩ := get_ex (l := l) (i := i) (by omega)
      rw [drop_at (take31 hx (by omega)), List.all_cons] at h2
      refine ⟨by omega, by omega, getM_at hx ?_⟩
      simp only [vx, vz, Nat.reduceAdd, Nat.reduceSub, Nat.reduceMul, Nat.reduceLeDiff, Nat.reduceLT, Nat.reduceEqDiff, Nat.reduceBEq, Int.reduceToNat, Int.reduceNeg, Int.reduceEq, Int.reduceNe, Int.reduceLE, Int.reduceLT, reduceCtorEq, ↓reduceIte]
      simp only [vx, vz, Nat.reduceAdd, Nat.reduceSub, Nat.reduceMul, Nat.reduceLeDiff, Nat.reduceLT, Nat.reduceEqDiff, Nat.reduceBEq, Int.reduceToNat, Int.reduceNeg, Int.reduceEq, Int.reduceNe, Int.reduceLE, Int.reduceLT, reduceCtorEq, ↓reduceIte, Rz.d]
      have bad : smaR x = false → fewS l = false := fun h => by rw [fewS, h2, h]; rfl
      have good : smaR x = true → (l.take 31).all smaR = ((l.take 31).drop (i + 1)).all smaR := fun h => by rw [h2, h, Bool.true_and]
      by_cases ha : 60 < (x.sg.length : Int)
      · rw [bad (by rw [smaR, dt ha]; rfl)]
        simp only [vx, vz, Nat.reduceAdd, Nat.reduceSub, Nat.reduceMul, Nat.reduceLeDiff, Nat.reduceLT, Nat.reduceEqDiff, Nat.reduceBEq, Int.reduceToNat, Int.reduceNeg, Int.reduceEq, Int.reduceNe, Int.reduceLE, Int.reduceLT, reduceCtorEq, ↓reduceIte, dt ha]
      · simp only [vx, vz, Nat.reduceAdd, Nat.reduceSub, Nat.reduceMul, Nat.reduceLeDiff, Nat.reduceLT, Nat.reduceEqDiff, Nat.reduceBEq, Int.reduceToNat, Int.reduceNeg, Int.reduceEq, Int.reduceNe, Int.reduceLE, Int.reduceLT, reduceCtorEq, ↓reduceIte, df ha]
        refine ⟨by omega, by omega, getM_at hx ?_⟩
        simp only [vx, vz, Nat.reduceAdd, Nat.reduceSub, Nat.reduceMul, Nat.reduceLeDiff, Nat.reduceLT, Nat.reduceEqDiff, Nat.reduceBEq, Int.reduceToNat, Int.reduceNeg, Int.reduceEq, Int.reduceNe, Int.reduceLE, Int.reduceLT, reduceCtorEq, ↓reduceIte]
        simp only [vx, vz, Nat.reduceAdd, Nat.reduceSub, Nat.reduceMul, Nat.reduceLeDiff, Nat.reduceLT, Nat.reduceEqDiff, Nat.reduceBEq, Int.reduceToNat, Int.reduceNeg, Int.reduceEq, Int.reduceNe, Int.reduceLE, Int.reduceLT, reduceCtorEq, ↓reduceIte, Rz.d]
        by_cases hb : 60 < (x.te.length : Int)
        · rw [bad (by rw [smaR, df ha, dt hb]; rfl)]
          simp only [vx, vz, Nat.reduceAdd, Nat.reduceSub, Nat.reduceMul, Nat.reduceLeDiff, Nat.reduceLT, Nat.reduceEqDiff, Nat.reduceBEq, Int.reduceToNat, Int.reduceNeg, Int.reduceEq, Int.reduceNe, Int.reduceLE, Int.reduceLT, reduceCtorEq, ↓reduceIte, dt hb]
        · simp only [vx, vz, Nat.reduceAdd, Nat.reduceSub, Nat.reduceMul, Nat.reduceLeDiff, Nat.reduceLT, Nat.reduceEqDiff, Nat.reduceBEq, Int.reduceToNat, Int.reduceNeg, Int.reduceEq, Int.reduceNe, Int.reduceLE, Int.reduceLT, reduceCtorEq, ↓reduceIte, df hb]
          refine ⟨by omega, by omega, getM_at hx ?_⟩
          simp only [vx, vz, Nat.reduceAdd, Nat.reduceSub, Nat.reduceMul, Nat.reduceLeDiff, Nat.reduceLT, Nat.reduceEqDiff, Nat.reduceBEq, Int.reduceToNat, Int.reduceNeg, Int.reduceEq, Int.reduceNe, Int.reduceLE, Int.reduceLT, reduceCtorEq, ↓reduceIte]
          simp only [vx, vz, Nat.reduceAdd, Nat.reduceSub, Nat.reduceMul, Nat.reduceLeDiff, Nat.reduceLT, Nat.reduceEqDiff, Nat.reduceBEq, Int.reduceToNat, Int.reduceNeg, Int.reduceEq, Int.reduceNe, Int.reduceLE, Int.reduceLT, reduceCtorEq, ↓reduceIte, Rz.d]
          by_cases hd : 60 < (x.de.length : Int)
          · rw [bad (by rw [smaR, df ha, df hb, dt hd]; rfl)]
            simp only [vx, vz, Nat.reduceAdd, Nat.reduceSub, Nat.reduceMul, Nat.reduceLeDiff, Nat.reduceLT, Nat.reduceEqDiff, Nat.reduceBEq, Int.reduceToNat, Int.reduceNeg, Int.reduceEq, Int.reduceNe, Int.reduceLE, Int.reduceLT, reduceCtorEq, ↓reduceIte, dt hd]
          · simp only [vx, vz, Nat.reduceAdd, Nat.reduceSub, Nat.reduceMul, Nat.reduceLeDiff, Nat.reduceLT, Nat.reduceEqDiff, Nat.reduceBEq, Int.reduceToNat, Int.reduceNeg, Int.reduceEq, Int.reduceNe, Int.reduceLE, Int.reduceLT, reduceCtorEq, ↓reduceIte, df hd]
            refine ls_n (i + 1) (by omega) (weak_any ?_) ⟨by omega, by omega, good (by rw [smaR, df ha, df hb, df hd]; rfl)⟩
            simp only [vx, vz, Nat.reduceAdd, Nat.reduceSub, Nat.reduceMul, Nat.reduceLeDiff, Nat.reduceLT, Nat.reduceEqDiff, Nat.reduceBEq, Int.reduceToNat, Int.reduceNeg, Int.reduceEq, Int.reduceNe, Int.reduceLE, Int.reduceLT, reduceCtorEq, ↓reduceIte]
            rw [wr_i64 (by omega) (by omega)]
            trivial
    · rw [fin (by rw [List.length_take]; omega), ← e30]
      simp only [vx, vz, Nat.reduceAdd, Nat.reduceSub, Nat.reduceMul, Nat.reduceLeDiff, Nat.reduceLT, Nat.reduceEqDiff, Nat.reduceBEq, Int.reduceToNat, Int.reduceNeg, Int.reduceEq, Int.reduceNe, Int.reduceLE, Int.reduceLT, reduceCtorEq, ↓reduceIte, dt hc, df h31]
  · rw [fin (by rw [List.length_take]; omega), ← e30]
    simp only [vx, vz, Nat.reduceAdd, Nat.reduceSub, Nat.reduceMul, Nat.reduceLeDiff, Nat.reduceLT, Nat.reduceEqDiff, Nat.reduceBEq, Int.reduceToNat, Int.reduceNeg, Int.reduceEq, Int.reduceNe, Int.reduceLE, Int.reduceLT, reduceCtorEq, ↓reduceIte, df hc]
theorem few_ok {l : List Rz} (h : fewS l = true) : l.length ≤ 30 ∧ ∀ r ∈ l, r.te.length ≤ 60 ∧ r.de.length ≤ 60 ∧ r.sg.length ≤ 60 := by
  rw [fewS, Bool.and_eq_true, decide_eq_true_eq] at h
  refine ⟨h.2, fun r hr => ?_⟩
  have := List.all_eq_true.1 h.1 r (by rw [take_end (by omega)]; exact hr)
  simp only [smaR, Bool.not_eq_true', Bool.or_eq_false_iff, decide_eq_false_iff_not] at this
  omega
theorem okR_60 {r : Rz} (h : r.te.length ≤ 60 ∧ r.de.length ≤ 60 ∧ r.sg.length ≤ 60) : okR r := by
  have := mL
  exact ⟨by omega, by omega, by omega⟩
/- buckets: a sort, and the places -/
abbrev Bk := B × List Int
def insB (k : B) (i : Int) : List Bk → List Bk
  | [] => [(k, [i])]
  | p :: l => if p.1 = k then (k, p.2 ++ [i]) :: l else p :: insB k i l
def bucG : List Rz → Nat → List Bk → List Bk
  | [], _, bs => bs
  | r :: l, i, bs => bucG l (i + 1) (if fldS r = true then insB (srtS r.sg) i bs else bs)
def bucS (l : List Rz) : List Bk := bucG l 0 []
def bkD (p : Bk) : List D := [.sl 1 (p.2.map iD)]
def keyIx : List Bk → Nat → List (B × D)
  | [], _ => []
  | p :: l, n => (p.1, .int .i64 (n : Int)) :: keyIx l (n + 1)
theorem ins_new {k : B} {i : Int} {bs : List Bk} (h : ∀ p ∈ bs, p.1 ≠ k) : insB k i bs = bs ++ [(k, [i])] := by
  induction bs with
  | nil => rfl
  | cons p l ih => rw [insB, if_neg (h p (by simp)), ih (fun q hq => h q (by simp [hq]))]; rfl
theorem ins_old {k : B} {i : Int} {bs : List Bk} {j : Nat} {p : Bk} (h : bs[j]? = some p) (hp : p.1 = k) (hn : ∀ m q, m < j → bs[m]? = some q → q.1 ≠ k) : insB k i bs = bs.set j (k, p.2 ++ [i]) := by
  induction bs generalizing j with
  | nil => simp at h
  | cons x l ih =>
    cases j with
    | zero => simp at h; subst h; rw [insB, if_pos hp]; rfl
    | succ j =>
      rw [insB, if_neg (hn 0 x (by omega) rfl), ih (j := j) (by simpa using h) (fun m q hm hq => hn (m + 1) q (by omega) (by simpa using hq))]; rfl
theorem key_set {bs : List Bk} {j : Nat} {p : Bk} {x : List Int} (h : bs[j]? = some p) (n : Nat) : keyIx (bs.set j (p.1, x)) n = keyIx bs n := by
  induction bs generalizing j n with
  | nil => simp at h
  | cons q l ih =>
    cases j with
    | zero => simp at h; subst h; rfl
    | succ j => rw [List.set_cons_succ, keyIx, ih (by simpa using h)]; rfl
theorem key_find (k : B) (bs : List Bk) (n : Nat) (z : D) (x : List Int) :
    (∃ j p, bs[j]? = some p ∧ p.1 = k ∧ (∀ m q, m < j → bs[m]? = some q → q.1 ≠ k) ∧ mpHas (keyIx bs n) k = true ∧ mpGet z (keyIx bs n) k = .int .i64 ((n + j : Nat) : Int)) ∨
    ((∀ p ∈ bs, p.1 ≠ k) ∧ mpHas (keyIx bs n) k = false ∧ mpGet z (keyIx bs n) k = z ∧ mpPut (keyIx bs n) k (.int .i64 ((n + bs.length : Nat) : Int)) = keyIx (bs ++ [(k, x)]) n) := by
  induction bs generalizing n with
  | nil => exact .inr ⟨by simp, rfl, rfl, by simp [keyIx, mpPut]⟩
  | cons q l ih =>
    by_cases hq : q.1 = k
    · exact .inl ⟨0, q, rfl, hq, (fun m q' hm => by omega), by rw [keyIx, mpHas, if_pos hq], by rw [keyIx, mpGet, if_pos hq]; rfl⟩
    · rcases ih (n + 1) with ⟨j, p, h1, h2, h3, h4, h5⟩ | ⟨h1, h2, h3, h4⟩
      · refine .inl ⟨j + 1, p, by simpa using h1, h2, fun m q' hm hq' => ?_, by rw [keyIx, mpHas, if_neg hq, h4], by rw [keyIx, mpGet, if_neg hq, h5]; congr 2; omega⟩
        cases m with
        | zero => simp at hq'; subst hq'; exact hq
        | succ m => exact h3 m q' (by omega) (by simpa using hq')
      · refine .inr ⟨fun p hp => ?_, by rw [keyIx, mpHas, if_neg hq, h2], by rw [keyIx, mpGet, if_neg hq, h3], ?_⟩
        · rcases List.mem_cons.1 hp with rfl | hp
          · exact hq
          · exact h1 p hp
        · rw [keyIx, mpPut, if_neg hq, List.cons_append, keyIx, ← h4]
          congr 3
          rw [List.length_cons]; omega
/-- the cells of the list of buckets -/
def cel (h n : Nat) : List V := [.osl 1 (h + 2) n 0 n]
def cels : List Nat → List Bk → List (List V)
  | h :: hs, p :: bs => cel h p.2.length :: cels hs bs
  | _, _ => []
theorem cels_len : ∀ {hs : List Nat} {bs : List Bk}, hs.length = bs.length → (cels hs bs).length = bs.length
  | [], [], _ => rfl
  | _ :: hs, _ :: bs, h => by simp only [cels, List.length_cons]; rw [cels_len (by simpa using h)]
theorem cels_at : ∀ {hs : List Nat} {bs : List Bk} {j h : Nat} {p : Bk}, hs[j]? = some h → bs[j]? = some p → (cels hs bs)[j]? = some (cel h p.2.length)
  | [], _, j, h, p, h1, _ => by simp at h1
  | _ :: _, [], j, h, p, _, h1 => by simp at h1
  | a :: hs, b :: bs, 0, h, p, h1, h2 => by simp at h1 h2; subst h1 h2; rfl
  | a :: hs, b :: bs, j + 1, h, p, h1, h2 => by
    simp only [cels, List.getElem?_cons_succ]
    exact cels_at (by simpa using h1) (by simpa using h2)
theorem cels_set : ∀ {hs : List Nat} {bs : List Bk} {j h : Nat} {q : Bk}, hs[j]? = some h → hs.length = bs.length → (cels hs bs).set j (cel h q.2.length) = cels hs (bs.set j q)
  | [], _, j, h, q, h1, _ => by simp at h1
  | _ :: _, [], j, h, q, _, h1 => by simp at h1
  | a :: hs, b :: bs, 0, h, q, h1, _ => by simp at h1; subst h1; rfl
  | a :: hs, b :: bs, j + 1, h, q, h1, h2 => by
    simp only [cels, List.set_cons_succ]
    rw [cels_set (by simpa using h1) (by simpa using h2)]
theorem cels_snoc : ∀ {hs : List Nat} {bs : List Bk} {h : Nat} {q : Bk}, hs.length = bs.length → cels (hs ++ [h]) (bs ++ [q]) = cels hs bs ++ [cel h q.2.length]
  | [], [], h, q, _ => rfl
  | _ :: hs, _ :: bs, h, q, h1 => by
    simp only [List.cons_append, cels]
    rw [cels_snoc (by simpa using h1)]
/-- a row of places -/
def rowB1 (p : Bk) : RowS := .live 1 ((p.2.map iD).map (·.map .d))
/-- the rows hold the buckets -/
structure Hold (T : Go.Vx.Rows) (hs : List Nat) (bs : List Bk) : Prop where
  len : hs.length = bs.length
  nd : ∀ (j m h : Nat), hs[j]? = some h → hs[m]? = some h → j = m
  row : ∀ (j h : Nat) (p : Bk), hs[j]? = some h → bs[j]? = some p → T[h]? = some (rowB1 p)
theorem rowAt_app {A B : Go.Vx.Rows} {i j : Nat} (h : i = A.length + j) : Go.Vx.rowAt (A ++ B) i = Go.Vx.rowAt B j := by
  subst h
  induction A with
  | nil => simp
  | cons a A ih => rw [List.length_cons, show A.length + 1 + j = (A.length + j) + 1 by omega]; exact ih
theorem setAt_app {A B : Go.Vx.Rows} {i j : Nat} {r : RowS} (h : i = A.length + j) : setAt (A ++ B) i r = A ++ setAt B j r := by
  subst h
  induction A with
  | nil => simp
  | cons a A ih => rw [List.length_cons, show A.length + 1 + j = (A.length + j) + 1 by omega]; exact congrArg (a :: ·) ih
theorem rowAt_get {A B : Go.Vx.Rows} {i : Nat} {r : RowS} (h : A[i]? = some r) : Go.Vx.rowAt (A ++ B) i = r := by
  rw [rowAt_eq, List.getElem?_append_left (List.getElem?_eq_some_iff.1 h).1, h]; rfl
theorem setAt_get {A B : Go.Vx.Rows} {i : Nat} {r r' : RowS} (h : A[i]? = some r) : setAt (A ++ B) i r' = A.set i r' ++ B := by
  have hi := (List.getElem?_eq_some_iff.1 h).1
  clear h
  induction A generalizing i with
  | nil => simp at hi
  | cons a A ih => cases i with
    | zero => rfl
    | succ i => exact congrArg (a :: ·) (ih (by simpa using hi))
theorem Hold.more {T : Go.Vx.Rows} {hs : List Nat} {bs : List Bk} (h : Hold T hs bs) (B : Go.Vx.Rows) : Hold (T ++ B) hs bs :=
  ⟨h.len, h.nd, fun j k p h1 h2 => by rw [List.getElem?_append_left (List.getElem?_eq_some_iff.1 (h.row j k p h1 h2)).1]; exact h.row j k p h1 h2⟩
theorem Hold.old {T : Go.Vx.Rows} {hs : List Nat} {bs : List Bk} (h : Hold T hs bs) {j k : Nat} {p q : Bk} (h1 : hs[j]? = some k) (h2 : bs[j]? = some p) (B : Go.Vx.Rows) : Hold (T.set k (rowB1 q) ++ B) hs (bs.set j q) := by
  refine Hold.more ⟨by simp [h.len], h.nd, fun m k' p' h3 h4 => ?_⟩ B
  have hk := (List.getElem?_eq_some_iff.1 (h.row j k p h1 h2)).1
  by_cases hm : j = m
  · subst hm
    rw [h1] at h3; injection h3 with h3; subst h3
    rw [List.getElem?_set_self (by exact (List.getElem?_eq_some_iff.1 h2).1)] at h4
    injection h4 with h4; subst h4
    rw [List.getElem?_set_self hk]
  · rw [List.getElem?_set_ne hm] at h4
    rw [List.getElem?_set_ne (fun e => hm (h.nd j m k h1 (by rw [e]; exact h3)))]
    exact h.row m k' p' h3 h4
theorem Hold.new {T : Go.Vx.Rows} {hs : List Nat} {bs : List Bk} (h : Hold T hs bs) {q : Bk} {k : Nat} (hk : T.length ≤ k) {B : Go.Vx.Rows} (hB : (T ++ B)[k]? = some (rowB1 q)) : Hold (T ++ B) (hs ++ [k]) (bs ++ [q]) := by
  have hlt : ∀ (j m : Nat), hs[j]? = some m → m < T.length := fun j m h1 => by
    obtain ⟨p, hp⟩ := get_ex (l := bs) (i := j) (by rw [← h.len]; exact (List.getElem?_eq_some_iff.1 h1).1)
    exact (List.getElem?_eq_some_iff.1 (h.row j m p h1 hp)).1
  refine ⟨by simp [h.len], fun j m x h1 h2 => ?_, fun j x p h1 h2 => ?_⟩
  · rw [List.getElem?_append] at h1 h2
    split at h1
    · split at h2
      · exact h.nd j m x h1 h2
      · have := hlt j x h1
        have : k = x := by
          rw [List.getElem?_singleton] at h2
          split at h2
          · injection h2
          · cases h2
        omega
    · split at h2
      · have := hlt m x h2
        have : k = x := by
          rw [List.getElem?_singleton] at h1
          split at h1
          · injection h1
          · cases h1
        omega
      · rw [List.getElem?_singleton] at h1 h2
        split at h1
        · split at h2
          · omega
          · cases h2
        · cases h1
  · by_cases hj : j < hs.length
    · rw [List.getElem?_append_left hj] at h1
      rw [List.getElem?_append_left (by rw [← h.len]; exact hj)] at h2
      exact (h.more B).row j x p h1 h2
    · rw [List.getElem?_append_right (by omega), List.getElem?_singleton] at h1
      rw [List.getElem?_append_right (by rw [← h.len]; omega), List.getElem?_singleton] at h2
      split at h1
      · split at h2
        · injection h1 with h1; injection h2 with h2; subst h1 h2; exact hB
        · cases h2
      · cases h1
theorem szb {l : List Bk} : ∀ e ∈ l.map bkD, e.length = 1 := fun e he => by obtain ⟨t, _, rfl⟩ := List.mem_map.1 he; rfl
theorem sn_bk {T : Go.Vx.Rows} {hs : List Nat} {bs : List Bk} (h : Hold T hs bs) {r0 r1 : RowS} (g : Nat) (hg : (r0 :: r1 :: T)[g]? = some (.live 1 (cels hs bs))) : Snap (r0 :: r1 :: T) (.osl 1 g bs.length 0 bs.length) (.d (.sl 1 (bs.map bkD))) := by
  refine .osl 1 g _ 0 _ (cels hs bs) _ hg (cels_len h.len) (by omega) (by simp) szb fun i j e x v y h1 h2 h3 h4 => ?_
  rw [Nat.zero_add] at h1
  rw [List.getElem?_map] at h2
  obtain ⟨p, hp, rfl⟩ := Option.map_eq_some_iff.1 h2
  obtain ⟨k, hk⟩ := get_ex (l := hs) (i := i) (by rw [h.len]; exact (List.getElem?_eq_some_iff.1 hp).1)
  rw [cels_at hk hp] at h1
  injection h1 with h1; subst h1
  cases j with
  | succ j => simp [cel] at h3
  | zero =>
    simp [cel] at h3; subst h3
    simp [bkD] at h4; subst h4
    have hr := h.row i k p hk hp
    refine sn_osl (es := p.2.map iD) (by rw [← rowAt_live]; simpa [rowB1] using hr) (by simp) (by simp) szi (by rw [List.drop_zero, List.take_of_length_le (by simp)])
end Go.Proofs.Sg
