import Derived.Test.YtfoncpamepepmaaU
import Derived.Test.YtfoncpamepepmaaL7
set_option linter.unusedSimpArgs false
set_option linter.unusedVariables false
namespace Go.Proofs.Ar
open Go.Vx
def abc : B := [97, 98, 99, 100, 101, 102, 103, 104]
def pth (i : Nat) : B := (abc.take (i + 1)).drop i
def rnm (p : B) (x : Sl) : Sl := (x.1, x.2.1, x.2.2.1, p)
def nmS (j : Nat) (s : List Sl) : List Sl := s.map (rnm (pth j))
def naS (l : List (List Sl)) (n : Nat) : List (List Sl) := (List.range n).map fun j => nmS j ((l[j]?).getD [])
def psS (n : Nat) : List B := (List.range n).map pth
theorem na_succ {l : List (List Sl)} {i : Nat} {s : List Sl} (h : l[i]? = some s) : naS l (i + 1) = naS l i ++ [nmS i s] := by
  rw [naS, List.range_succ, List.map_append]; simp [naS, h]
theorem na_len {l : List (List Sl)} {n : Nat} : (naS l n).length = n := by simp [naS]
theorem ps_succ {i : Nat} : psS (i + 1) = psS i ++ [pth i] := by rw [psS, List.range_succ, List.map_append]; rfl
theorem ps_len {n : Nat} : (psS n).length = n := by simp [psS]
theorem nm_snoc {j k : Nat} {s : List Sl} {x : Sl} (h : s[k]? = some x) : nmS j (s.take (k + 1)) = nmS j (s.take k) ++ [rnm (pth j) x] := by
  rw [take_at h, nmS, List.map_append]; rfl
theorem t25 (l : List (List Sl)) (hl : okL l) (h8 : l.length ≤ 8) : CallP Try.prog 25 [llV l] (.tup [llV (naS l l.length), .d (.sl 1 ((psS l.length).map sD))]) := by
  have hm := hm
  refine go25 ac25 rfl ?_
  simp only [vx, vz, Nat.reduceAdd, Nat.reduceSub, Nat.reduceMul, Nat.reduceLeDiff, Nat.reduceLT, Nat.reduceEqDiff, Nat.reduceBEq, Int.reduceToNat, Int.reduceNeg, Int.reduceEq, Int.reduceNe, Int.reduceLE, Int.reduceLT, reduceCtorEq, ↓reduceIte, ac25]
  refine loop_st (fun i : Nat => ⟨mkF 53 [(0, llV l), (4, .osl 1 0 i 0 i), (5, .osl 1 1 i 0 i), (6, .d (.int .i64 i))], [.live 1 (((naS l i).map stD).map (·.map .d)), .live 1 (((psS i).map sD).map (·.map .d))]⟩) (fun i => i ≤ l.length) (fun i => l.length - i) 0 (Weak.trans (weak_nils 4 1 rfl) (Weak.trans (weak_nils 5 1 rfl) (weak_any (by simp only [vx, vz, Nat.reduceAdd, Nat.reduceSub, Nat.reduceMul, Nat.reduceLeDiff, Nat.reduceLT, Nat.reduceEqDiff, Nat.reduceBEq, Int.reduceToNat, Int.reduceNeg, Int.reduceEq, Int.reduceNe, Int.reduceLE, Int.reduceLT, reduceCtorEq, ↓reduceIte]; try trivial)))) (by omega) (fun i hi => ?_)
  have hnl := na_len (l := l) (n := i)
  have hpl := ps_len (n := i)
  simp only [vx, vz, Nat.reduceAdd, Nat.reduceSub, Nat.reduceMul, Nat.reduceLeDiff, Nat.reduceLT, Nat.reduceEqDiff, Nat.reduceBEq, Int.reduceToNat, Int.reduceNeg, Int.reduceEq, Int.reduceNe, Int.reduceLE, Int.reduceLT, reduceCtorEq, ↓reduceIte]
  refine cond_split (fun hc => ?_) (fun hc => ?_)
  · simp only [decide_eq_true_eq] at hc
    obtain ⟨s, hs⟩ := get_ex (l := l) (i := i) (by omega)
    have hsl := (hl.2 s (List.mem_of_getElem? hs)).1
    simp only [vx, vz, Nat.reduceAdd, Nat.reduceSub, Nat.reduceMul, Nat.reduceLeDiff, Nat.reduceLT, Nat.reduceEqDiff, Nat.reduceBEq, Int.reduceToNat, Int.reduceNeg, Int.reduceEq, Int.reduceNe, Int.reduceLE, Int.reduceLT, reduceCtorEq, ↓reduceIte]
    rw [wr_i64 (by omega) (by omega)]
    refine ⟨by omega, by omega, by omega, ?_⟩
    have esp := na_succ (l := l) hs
    have epp := ps_succ (i := i)
    refine loop_st (fun k : Nat => ⟨mkF 53 [(0, llV l), (4, .osl 1 0 i 0 i), (5, .osl 1 1 i 0 i), (6, .d (.int .i64 i)), (7, .d (.str (pth i))), (8, .osl 4 2 k 0 k), (9, .d (.int .i64 k))], [.live 1 (((naS l i).map stD).map (·.map .d)), .live 1 (((psS i).map sD).map (·.map .d)), .live 4 (((nmS i (s.take k)).map slD).map (·.map .d))]⟩) (fun k => k ≤ s.length) (fun k => s.length - k) 0 (Weak.trans (weak_nils 8 4 rfl) (weak_any (by
      simp only [vx, vz, Nat.reduceAdd, Nat.reduceSub, Nat.reduceMul, Nat.reduceLeDiff, Nat.reduceLT, Nat.reduceEqDiff, Nat.reduceBEq, Int.reduceToNat, Int.reduceNeg, Int.reduceEq, Int.reduceNe, Int.reduceLE, Int.reduceLT, reduceCtorEq, ↓reduceIte]
      rfl))) (by omega) (fun k hk => ?_)
    have hnk : (nmS i (s.take k)).length = k := by simp [nmS]; omega
    simp only [vx, vz, Nat.reduceAdd, Nat.reduceSub, Nat.reduceMul, Nat.reduceLeDiff, Nat.reduceLT, Nat.reduceEqDiff, Nat.reduceBEq, Int.reduceToNat, Int.reduceNeg, Int.reduceEq, Int.reduceNe, Int.reduceLE, Int.reduceLT, reduceCtorEq, ↓reduceIte]
    refine ⟨by omega, by omega, getM_at hs ?_⟩
    simp only [vx, vz, Nat.reduceAdd, Nat.reduceSub, Nat.reduceMul, Nat.reduceLeDiff, Nat.reduceLT, Nat.reduceEqDiff, Nat.reduceBEq, Int.reduceToNat, Int.reduceNeg, Int.reduceEq, Int.reduceNe, Int.reduceLE, Int.reduceLT, reduceCtorEq, ↓reduceIte]
    simp only [vx, vz, Nat.reduceAdd, Nat.reduceSub, Nat.reduceMul, Nat.reduceLeDiff, Nat.reduceLT, Nat.reduceEqDiff, Nat.reduceBEq, Int.reduceToNat, Int.reduceNeg, Int.reduceEq, Int.reduceNe, Int.reduceLE, Int.reduceLT, reduceCtorEq, ↓reduceIte, stD]
    refine cond_split (fun hc2 => ?_) (fun hc2 => ?_)
    · simp only [decide_eq_true_eq] at hc2
      obtain ⟨x, hx⟩ := get_ex (l := s) (i := k) (by omega)
      have esn := nm_snoc (j := i) hx
      simp only [vx, vz, Nat.reduceAdd, Nat.reduceSub, Nat.reduceMul, Nat.reduceLeDiff, Nat.reduceLT, Nat.reduceEqDiff, Nat.reduceBEq, Int.reduceToNat, Int.reduceNeg, Int.reduceEq, Int.reduceNe, Int.reduceLE, Int.reduceLT, reduceCtorEq, ↓reduceIte]
      refine ⟨by omega, by omega, getM_at hs ?_⟩
      simp only [vx, vz, Nat.reduceAdd, Nat.reduceSub, Nat.reduceMul, Nat.reduceLeDiff, Nat.reduceLT, Nat.reduceEqDiff, Nat.reduceBEq, Int.reduceToNat, Int.reduceNeg, Int.reduceEq, Int.reduceNe, Int.reduceLE, Int.reduceLT, reduceCtorEq, ↓reduceIte]
      simp only [vx, vz, Nat.reduceAdd, Nat.reduceSub, Nat.reduceMul, Nat.reduceLeDiff, Nat.reduceLT, Nat.reduceEqDiff, Nat.reduceBEq, Int.reduceToNat, Int.reduceNeg, Int.reduceEq, Int.reduceNe, Int.reduceLE, Int.reduceLT, reduceCtorEq, ↓reduceIte, stD]
      refine ⟨by omega, by omega, getM_at hx ?_⟩
      simp only [vx, vz, Nat.reduceAdd, Nat.reduceSub, Nat.reduceMul, Nat.reduceLeDiff, Nat.reduceLT, Nat.reduceEqDiff, Nat.reduceBEq, Int.reduceToNat, Int.reduceNeg, Int.reduceEq, Int.reduceNe, Int.reduceLE, Int.reduceLT, reduceCtorEq, ↓reduceIte]
      simp only [vx, vz, Nat.reduceAdd, Nat.reduceSub, Nat.reduceMul, Nat.reduceLeDiff, Nat.reduceLT, Nat.reduceEqDiff, Nat.reduceBEq, Int.reduceToNat, Int.reduceNeg, Int.reduceEq, Int.reduceNe, Int.reduceLE, Int.reduceLT, reduceCtorEq, ↓reduceIte, slD, hnk]
      refine ⟨by unfold maxBytes; omega, ?_⟩
      refine ls_n (k + 1) (by omega) (Weak.trans (weak_any ?_) (weak_frz2 3 (by omega) ⟨.same _ rowB_data, .same _ rowB_data, ?_, trivial⟩ (kpL_refl ?_))) (by omega)
      · simp only [vx, vz, Nat.reduceAdd, Nat.reduceSub, Nat.reduceMul, Nat.reduceLeDiff, Nat.reduceLT, Nat.reduceEqDiff, Nat.reduceBEq, Int.reduceToNat, Int.reduceNeg, Int.reduceEq, Int.reduceNe, Int.reduceLE, Int.reduceLT, reduceCtorEq, ↓reduceIte]
        rw [wr_i64 (by omega) (by omega)]
        try trivial
      · show RowK 3 _ _ (.live 4 (((nmS i (s.take (k + 1))).map slD).map (·.map .d)))
        rw [esn]
        exact rowK_sl (x := rnm (pth i) x)
      · rfl
    · simp only [decide_eq_false_iff_not] at hc2
      obtain rfl : k = s.length := by omega
      rw [take_end (Nat.le_refl _)]
      rw [take_end (Nat.le_refl _)] at hnk
      simp only [vx, vz, Nat.reduceAdd, Nat.reduceSub, Nat.reduceMul, Nat.reduceLeDiff, Nat.reduceLT, Nat.reduceEqDiff, Nat.reduceBEq, Int.reduceToNat, Int.reduceNeg, Int.reduceEq, Int.reduceNe, Int.reduceLE, Int.reduceLT, reduceCtorEq, ↓reduceIte, hnl, hpl]
      refine ⟨by unfold maxBytes; omega, by unfold maxBytes; omega, ?_⟩
      refine ls_n (i + 1) (by omega) (Weak.trans (weak_any ?_) (weak_frz2 2 (by omega) ⟨?_, ?_, trivial⟩ (kpL_refl ?_))) (by omega)
      · simp only [vx, vz, Nat.reduceAdd, Nat.reduceSub, Nat.reduceMul, Nat.reduceLeDiff, Nat.reduceLT, Nat.reduceEqDiff, Nat.reduceBEq, Int.reduceToNat, Int.reduceNeg, Int.reduceEq, Int.reduceNe, Int.reduceLE, Int.reduceLT, reduceCtorEq, ↓reduceIte]
        rw [wr_i64 (by omega) (by omega)]
        try trivial
      · show RowK 2 _ _ (.live 1 (((naS l (i + 1)).map stD).map (·.map .d)))
        rw [show (naS l (i + 1)).map stD = (naS l i).map stD ++ [stD (nmS i s)] by rw [esp, List.map_append]; rfl]
        exact rowK_snoc (e := [.osl 4 2 s.length 0 s.length]) (x := stD (nmS i s)) ⟨.snap _ _ (sn_all (es := (nmS i s).map slD) rfl (by simp [nmS]) szl), trivial⟩
      · show RowK 2 _ _ (.live 1 (((psS (i + 1)).map sD).map (·.map .d)))
        rw [show (psS (i + 1)).map sD = (psS i).map sD ++ [sD (pth i)] by rw [epp, List.map_append]; rfl]
        exact rowK_snoc (x := sD (pth i)) ⟨.same _ rfl, trivial⟩
      · rfl
  · simp only [decide_eq_false_iff_not] at hc
    obtain rfl : i = l.length := by omega
    simp only [vx, vz, Nat.reduceAdd, Nat.reduceSub, Nat.reduceMul, Nat.reduceLeDiff, Nat.reduceLT, Nat.reduceEqDiff, Nat.reduceBEq, Int.reduceToNat, Int.reduceNeg, Int.reduceEq, Int.reduceNe, Int.reduceLE, Int.reduceLT, reduceCtorEq, ↓reduceIte]
    exact ⟨sn_all (es := (naS l l.length).map stD) rfl (by simp [na_len]) szt, sn_all (es := (psS l.length).map sD) rfl (by simp [ps_len]) szs⟩
end Go.Proofs.Ar

namespace Go.Proofs.Ar
open Go.Vx
/-- busy slots of a path -/
def ofS (st : List Sl) (p : B) : List Sl := ptsS (onlyS st) p
theorem of_cons {x : Sl} {l : List Sl} {p : B} : ofS (x :: l) p = if x.1 = false ∧ x.2.2.2 = p then x :: ofS l p else ofS l p := by
  rw [ofS, onlyS, List.filter_cons]
  cases hx : x.1 with
  | true => simp [ofS, onlyS]
  | false =>
    simp only [Bool.not_false, if_true, true_and]
    rw [ptsS, List.filter_cons]
    by_cases hp : x.2.2.2 = p <;> simp [hp, ofS, ptsS, onlyS]
theorem of_app {a b : List Sl} {p : B} : ofS (a ++ b) p = ofS a p ++ ofS b p := by simp [ofS, ptsS, onlyS]
theorem of_nil {p : B} : ofS [] p = [] := rfl
theorem of_all {l : List Sl} {p : B} (h : ∀ x ∈ l, x.2.2.2 = p) : ofS l p = onlyS l := List.filter_eq_self.2 fun x hx => by simp [h x (List.mem_filter.1 hx).1]
theorem of_none {l : List Sl} {p q : B} (h : ∀ x ∈ l, x.2.2.2 = q) (hne : q ≠ p) : ofS l p = [] := List.filter_eq_nil_iff.2 fun x hx => by simp [h x (List.mem_filter.1 hx).1, hne]
/-- the lists bear paths of their own -/
def own (ls : List (List Sl)) (ps : List B) : Prop := ls.length = ps.length ∧ ∀ (i : Nat) (s : List Sl) (p : B), ls[i]? = some s → ps[i]? = some p → ∀ x ∈ s, x.2.2.2 = p
def diff (ps : List B) : Prop := ∀ (i j : Nat) (p : B), ps[i]? = some p → ps[j]? = some p → i = j
theorem own_set {ls : List (List Sl)} {ps : List B} {i : Nat} {x : Sl} {s : List Sl} (h : own ls ps) (hx : ls[i]? = some (x :: s)) : own (ls.set i s) ps := by
  refine ⟨by rw [List.length_set]; exact h.1, fun j t p ht hp y hy => ?_⟩
  rw [List.getElem?_set] at ht
  split at ht
  · next e =>
    subst e
    split at ht
    · injection ht with ht; subst ht
      exact h.2 i _ p hx hp y (by simp [hy])
    · cases ht
  · exact h.2 j t p ht hp y hy
theorem mem_tot {s : List Sl} : ∀ {ls : List (List Sl)} {m : Nat}, ls[m]? = some s → s.length ≤ tot ls := by
  intro ls
  induction ls with
  | nil => intro m h; simp at h
  | cons b ls ih => intro m h; cases m with
    | zero => simp at h; subst h; simp [tot]
    | succ m => have := ih (m := m) (by simpa using h); simp [tot]; omega
theorem lot_of {ws : List Int} {k : W} {ps : List B} (hw : okW ws) (hd : diff ps) : ∀ (n : Nat) (c : W) (ls : List (List Sl)), ls.length = ws.length → tot ls ≤ n → own ls ps → (∀ s ∈ ls, onlyS s = s) → ∀ (i : Nat) (s : List Sl) (p : B), ls[i]? = some s → ps[i]? = some p → ofS (lotS ws k n c ls) p = s := by
  intro n
  induction n with
  | zero =>
    intro c ls _ ht _ _ i s p hs _
    have h0 := mem_tot hs
    have : s = [] := List.eq_nil_of_length_eq_zero (by omega)
    subst this; rfl
  | succ n ih =>
    intro c ls hl ht ho hb i s p hs hp
    by_cases hq : 0 < Rg.tot (nowS ls ws)
    · obtain ⟨x, t, hx⟩ := pick_at (k := k) (c := c) hw hl hq
      have hts := tot_set hx
      rw [lot_go hq hx]
      generalize pick k c ls ws = j at hx hts ⊢
      have hbx := hb _ (List.mem_of_getElem? hx)
      have hx1 : x.1 = false := by
        have : x ∈ onlyS (x :: t) := by rw [hbx]; simp
        simpa using (List.mem_filter.1 this).2
      have hbt : onlyS t = t := by
        rw [onlyS, List.filter_cons, if_pos (by simp [hx1])] at hbx
        injection hbx
      have ho2 := own_set ho hx
      have hb2 : ∀ s ∈ ls.set j t, onlyS s = s := fun s hs => by
        rcases List.mem_or_eq_of_mem_set hs with hs | rfl
        · exact hb s hs
        · exact hbt
      obtain ⟨q, hqq⟩ := get_ex (l := ps) (i := j) (by have := (List.getElem?_eq_some_iff.1 hx).1; have := ho.1; omega)
      have hxp := ho.2 j _ q hx hqq x (by simp)
      rw [of_cons]
      by_cases hij : i = j
      · subst hij
        rw [hx] at hs; injection hs with hs; subst hs
        rw [hp] at hqq; injection hqq with hqq; subst hqq
        rw [if_pos ⟨hx1, hxp⟩, ih _ (ls.set i t) (by rw [List.length_set]; exact hl) (by omega) ho2 hb2 i t p (by rw [List.getElem?_set_self (List.getElem?_eq_some_iff.1 hx).1]) hp]
      · have hne : ¬ x.2.2.2 = p := fun e => hij (hd i j p hp (by rw [hqq, ← hxp, e]))
        rw [if_neg (fun e => hne e.2)]
        exact ih _ (ls.set j t) (by rw [List.length_set]; exact hl) (by omega) ho2 hb2 i s p (by rw [List.getElem?_set_ne (fun e => hij e.symm)]; exact hs) hp
    · have h0 : ¬ 0 < tot ls := fun e => hq ((tot_now hw hl).2 e)
      rw [lot_end hq]
      have h1 := mem_tot hs
      have : s = [] := List.eq_nil_of_length_eq_zero (by omega)
      subst this; rfl
theorem round_of {ls : List (List Sl)} {ps : List B} (hd : diff ps) (ho : own ls ps) {k : Nat} : ∀ (n : Nat), n ≤ ls.length → ∀ (i : Nat) (s : List Sl) (p : B), ls[i]? = some s → ps[i]? = some p → ofS (roundS (ls.take n) k) p = if i < n then onlyS (match s[k]? with | some x => [x] | none => []) else [] := by
  intro n
  induction n with
  | zero => intro _ i s p _ _; simp [roundS, ofS, onlyS, ptsS]
  | succ n ih =>
    intro hn i s p hs hp
    obtain ⟨t, ht⟩ := get_ex (l := ls) (i := n) (by omega)
    obtain ⟨q, hq⟩ := get_ex (l := ps) (i := n) (by have := ho.1; omega)
    rw [round_snoc ht, of_app, ih (by omega) i s p hs hp]
    have hpt : ∀ x ∈ (match t[k]? with | some x => [x] | none => [] : List Sl), x.2.2.2 = q := fun x hx => by
      cases hk : t[k]? with
      | none => rw [hk] at hx; cases hx
      | some y =>
        rw [hk] at hx; simp at hx; subst hx
        exact ho.2 n t q ht hq _ (List.mem_of_getElem? hk)
    by_cases hin : i = n
    · subst hin
      rw [ht] at hs; injection hs with hs; subst hs
      rw [hp] at hq; injection hq with hq; subst hq
      rw [if_neg (by omega), if_pos (by omega), List.nil_append]
      exact of_all hpt
    · have hne : q ≠ p := fun e => hin (hd i n p hp (by rw [hq, e]))
      have e0 := of_none hpt hne
      have e0' : ofS (match t[k]? with | some x => [x] | none => []) p = [] := e0
      by_cases h2 : i < n
      · rw [if_pos h2, if_pos (by omega)]
        refine Eq.trans (congrArg _ e0') (List.append_nil _)
      · rw [if_neg h2, if_neg (by omega)]
        exact e0'
theorem out_of {ls : List (List Sl)} {ps : List B} (hd : diff ps) (ho : own ls ps) {i : Nat} {s : List Sl} {p : B} (hs : ls[i]? = some s) (hp : ps[i]? = some p) : ∀ k, ofS (outT ls k) p = onlyS (s.take k) := by
  have hi := (List.getElem?_eq_some_iff.1 hs).1
  intro k
  induction k with
  | zero => simp [outT, ofS, onlyS, ptsS]
  | succ k ih =>
    have hr := round_of (k := k) hd ho ls.length (Nat.le_refl _) i s p hs hp
    rw [take_end (Nat.le_refl _), if_pos hi] at hr
    rw [outT_succ, of_app, ih, hr]
    rcases Nat.lt_or_ge k s.length with hk | hk
    · obtain ⟨x, hx⟩ := get_ex hk
      rw [hx, take_at hx, onlyS, onlyS, onlyS, List.filter_append]
    · rw [List.getElem?_eq_none hk, take_end hk, take_end (by omega)]
      simp [onlyS]
theorem turns_of {ls : List (List Sl)} {ps : List B} (hd : diff ps) (ho : own ls ps) {i : Nat} {s : List Sl} {p : B} (hs : ls[i]? = some s) (hp : ps[i]? = some p) : ofS (outT ls (longS ls)) p = onlyS s := by
  rw [out_of hd ho hs hp, take_end]
  exact (long_mem (n := 0) (List.mem_of_getElem? hs)).1
theorem first_of {l : List (List Sl)} {ps : List B} (hd : diff ps) (ho : own l ps) : ∀ (n : Nat) (ls : List (List Sl × Nat)), okI l ls → rem ls ≤ n → ∀ (i : Nat) (s : List Sl) (a : Nat) (p : B), ls[i]? = some (s, a) → ps[i]? = some p → ofS (frS n ls) p = onlyS (s.drop a) := by
  intro n
  induction n with
  | zero =>
    intro ls _ hr i s a p hs _
    have : ∀ (ls : List (List Sl × Nat)) (i : Nat), ls[i]? = some (s, a) → s.length - a ≤ rem ls := by
      intro ls
      induction ls with
      | nil => intro i h; simp at h
      | cons b ls ih => intro i h; cases i with
        | zero => simp at h; subst h; simp [rem]
        | succ i => have := ih i (by simpa using h); simp [rem]; omega
    have := this ls i hs
    rw [drop_end (by omega)]; rfl
  | succ n ih =>
    intro ls hI hr i s a p hs hp
    rcases fidx_spec (q := busyS) (l := ls) (k := 0) with ⟨hi, hno⟩ | ⟨j, pr, hi, hpr, hb⟩
    · have hb := hno _ (List.mem_of_getElem? hs)
      cases hop : opn ls with
      | false =>
        rw [fr_done hi hop]
        have : finS (s, a) = true := by
          have := List.any_eq_false.1 hop _ (List.mem_of_getElem? hs)
          simpa using this
        have := of_decide_eq_true this
        rw [drop_end (by simpa using this)]; rfl
      | true =>
        have hri := (rem_inc (ls := ls)).2 hop
        rw [fr_idle hi, hop, if_pos rfl, of_cons, if_neg (by simp [idl])]
        rcases Nat.lt_or_ge a s.length with hk | hk
        · obtain ⟨x, hx⟩ := get_ex hk
          have hx1 : x.1 = true := by
            rw [busyS] at hb; simp only [hx] at hb; simpa using hb
          have hs2 : (ls.map incS)[i]? = some (s, a + 1) := by
            rw [List.getElem?_map, hs]; simp only [Option.map_some, incS, if_pos hk]; rfl
          rw [ih (ls.map incS) (okI_inc hI) (by omega) i s (a + 1) p hs2 hp, drop_at hx, onlyS, onlyS, List.filter_cons, if_neg (by simp [hx1])]
        · have hs2 : (ls.map incS)[i]? = some (s, a) := by
            rw [List.getElem?_map, hs]; simp only [Option.map_some, incS]; rw [if_neg (by omega)]
          rw [ih (ls.map incS) (okI_inc hI) (by omega) i s a p hs2 hp]
    · rw [Nat.zero_add] at hi
      obtain ⟨x, hx, hx1⟩ := busy_some hb
      have hrm := rem_busy hpr hx
      rw [fr_busy hi hpr hx, of_cons]
      have hlj := okI_mem hI hpr
      obtain ⟨q, hq⟩ := get_ex (l := ps) (i := j) (by have := (List.getElem?_eq_some_iff.1 hlj).1; have := ho.1; omega)
      have hxp := ho.2 j _ q hlj hq x (List.mem_of_getElem? hx)
      by_cases hij : i = j
      · subst hij
        rw [hpr] at hs; injection hs with hs; subst hs
        rw [hp] at hq; injection hq with hq; subst hq
        rw [if_pos ⟨hx1, hxp⟩, ih _ (okI_set hI hpr) (by omega) i s (a + 1) p (by rw [List.getElem?_set_self (List.getElem?_eq_some_iff.1 hpr).1]; rfl) hp]
        simp only at hx
        rw [drop_at hx, onlyS, onlyS, List.filter_cons, if_pos (by simp [hx1])]
      · have hne : ¬ x.2.2.2 = p := fun e => hij (hd i j p hp (by rw [hq, ← hxp, e]))
        rw [if_neg (fun e => hne e.2)]
        exact ih _ (okI_set hI hpr) (by omega) i s a p (by rw [List.getElem?_set_ne (fun e => hij e.symm)]; exact hs) hp
theorem part_len {ps : List B} (hd : diff ps) : ∀ (l : List Sl), (∀ x ∈ l, x.2.2.2 ∈ ps) → l.length = (ps.map fun p => (ptsS l p).length).sum := by
  have h1 : ∀ (ps : List B) (q : B), diff ps → q ∈ ps → (ps.map fun p => if q = p then 1 else 0).sum = 1 := by
    intro ps
    induction ps with
    | nil => intro q _ h; cases h
    | cons a ps ih =>
      intro q hd hq
      rw [List.map_cons, List.sum_cons]
      have hd2 : diff ps := fun i j p h1 h2 => by have := hd (i + 1) (j + 1) p (by simpa using h1) (by simpa using h2); omega
      by_cases hqa : q = a
      · subst hqa
        rw [if_pos rfl]
        have : (ps.map fun p => if q = p then 1 else 0).sum = 0 := by
          have hz : ∀ p ∈ ps, ¬ q = p := fun p hp e => by
            subst e
            obtain ⟨j, hj, hjj⟩ := List.getElem_of_mem hp
            have := hd 0 (j + 1) q rfl (by simp [hj, hjj])
            omega
          clear ih hd hd2 hq
          induction ps with
          | nil => rfl
          | cons b ps ih2 =>
            rw [List.map_cons, List.sum_cons, if_neg (hz b (by simp)), ih2 (fun p hp => hz p (by simp [hp]))]
        omega
      · rw [if_neg hqa]
        have := ih q hd2 (by
          rcases List.mem_cons.1 hq with h | h
          · exact absurd h hqa
          · exact h)
        omega
  intro l
  induction l with
  | nil =>
    intro _
    have : ∀ ps : List B, (ps.map fun p => (ptsS [] p).length).sum = 0 := by
      intro ps
      induction ps with
      | nil => rfl
      | cons p ps ih => rw [List.map_cons, List.sum_cons, ih]; rfl
    rw [this]; rfl
  | cons x l ih =>
    intro h
    have h2 := h1 ps x.2.2.2 hd (h x (by simp))
    have h3 := ih (fun y hy => h y (by simp [hy]))
    have h4 : ∀ ps : List B, (ps.map fun p => (ptsS (x :: l) p).length).sum = (ps.map fun p => if x.2.2.2 = p then 1 else 0).sum + (ps.map fun p => (ptsS l p).length).sum := by
      intro ps
      induction ps with
      | nil => rfl
      | cons p ps ih =>
        rw [List.map_cons, List.map_cons, List.map_cons, List.sum_cons, List.sum_cons, List.sum_cons, ih]
        have : (ptsS (x :: l) p).length = (if x.2.2.2 = p then 1 else 0) + (ptsS l p).length := by
          rw [ptsS, List.filter_cons]
          by_cases hp : x.2.2.2 = p <;> simp [hp, ptsS]; omega
        omega
    rw [h4, h2, List.length_cons, h3]; omega
end Go.Proofs.Ar

namespace Go.Proofs.Ar
open Go.Vx
theorem pth_inj : ∀ i : Fin 8, ∀ j : Fin 8, pth i.1 = pth j.1 → i = j := by decide
theorem ps_diff {n : Nat} (h : n ≤ 8) : diff (psS n) := by
  intro i j p hi hj
  have h1 := (List.getElem?_eq_some_iff.1 hi).1
  have h2 := (List.getElem?_eq_some_iff.1 hj).1
  rw [ps_len] at h1 h2
  rw [psS, List.getElem?_map, List.getElem?_range h1] at hi
  rw [psS, List.getElem?_map, List.getElem?_range h2] at hj
  injection hi with hi; injection hj with hj
  have := pth_inj ⟨i, by omega⟩ ⟨j, by omega⟩ (by simp only; rw [hi, hj])
  injection this
theorem na_at {l : List (List Sl)} {i : Nat} {s : List Sl} (h : l[i]? = some s) : (naS l l.length)[i]? = some (nmS i s) := by
  have := (List.getElem?_eq_some_iff.1 h).1
  rw [naS, List.getElem?_map, List.getElem?_range this]; simp [h]
theorem na_own {l : List (List Sl)} : own (naS l l.length) (psS l.length) := by
  refine ⟨by rw [na_len, ps_len], fun i s p hs hp x hx => ?_⟩
  have h1 := (List.getElem?_eq_some_iff.1 hs).1
  rw [na_len] at h1
  obtain ⟨t, ht⟩ := get_ex (l := l) h1
  rw [na_at ht] at hs; injection hs with hs; subst hs
  rw [psS, List.getElem?_map, List.getElem?_range h1] at hp
  injection hp with hp; subst hp
  obtain ⟨y, _, rfl⟩ := List.mem_map.1 hx
  rfl
theorem na_ok {l : List (List Sl)} (hl : okL l) : okL (naS l l.length) := by
  refine ⟨by rw [na_len]; exact hl.1, fun s hs => ?_⟩
  obtain ⟨i, hi, rfl⟩ := List.getElem_of_mem hs
  rw [na_len] at hi
  obtain ⟨t, ht⟩ := get_ex (l := l) hi
  have := na_at ht
  rw [List.getElem?_eq_getElem (by rw [na_len]; exact hi)] at this
  injection this with this
  rw [this]
  have h2 := hl.2 t (List.mem_of_getElem? ht)
  refine ⟨by simp [nmS]; exact h2.1, fun x hx => ?_⟩
  obtain ⟨y, hy, rfl⟩ := List.mem_map.1 hx
  exact h2.2 y hy
structure Good (m : List (List Sl)) (ps : List B) (st : List Sl) : Prop where
  len : st.length ≤ 400
  ok : ∀ x ∈ st, okS x
  part : ∀ (i : Nat) (s : List Sl) (p : B), m[i]? = some s → ps[i]? = some p → ptsS (onlyS st) p = onlyS s
  mem : ∀ x ∈ onlyS st, x.2.2.2 ∈ ps
theorem good_tot {m : List (List Sl)} {ps : List B} {st : List Sl} (hd : diff ps) (ho : own m ps) (h : Good m ps st) : (onlyS st).length = tot (onl m) := by
  rw [part_len hd _ h.mem]
  have key : ∀ (m : List (List Sl)) (ps : List B), m.length = ps.length → (∀ (i : Nat) (s : List Sl) (p : B), m[i]? = some s → ps[i]? = some p → ptsS (onlyS st) p = onlyS s) → (ps.map fun p => (ptsS (onlyS st) p).length).sum = tot (onl m) := by
    intro m
    induction m with
    | nil => intro ps hl _; cases ps with
      | nil => rfl
      | cons => simp at hl
    | cons s m ih => intro ps hl hp; cases ps with
      | nil => simp at hl
      | cons p ps =>
        rw [List.map_cons, List.sum_cons, ih ps (by simpa using hl) (fun i s' p' h1 h2 => hp (i + 1) s' p' (by simpa using h1) (by simpa using h2)), hp 0 s p rfl rfl]
        rfl
  exact key m ps ho.1 h.part
theorem mem_path {m : List (List Sl)} {ps : List B} (ho : own m ps) {s : List Sl} (hs : s ∈ m) {x : Sl} (hx : x ∈ s) : x.2.2.2 ∈ ps := by
  obtain ⟨i, hi, rfl⟩ := List.getElem_of_mem hs
  obtain ⟨p, hp⟩ := get_ex (l := ps) (i := i) (by have := ho.1; omega)
  rw [ho.2 i _ p (List.getElem?_eq_getElem hi) hp x hx]
  exact List.mem_of_getElem? hp
theorem good_turns {m : List (List Sl)} {ps : List B} (hl : okL m) (hd : diff ps) (ho : own m ps) : Good m ps (outT m (longS m)) := by
  refine ⟨?_, out_ok hl, fun i s p hs hp => turns_of hd ho hs hp, fun x hx => ?_⟩
  · have := outT_len hl (longS m)
    have := long_le hl
    omega
  · have hx := (List.mem_filter.1 hx).1
    rw [outT, List.mem_flatMap] at hx
    obtain ⟨j, _, hx⟩ := hx
    rw [roundS, List.mem_filterMap] at hx
    obtain ⟨s, hs, hx⟩ := hx
    exact mem_path ho hs (List.mem_of_getElem? hx)
theorem fr_mem {l : List (List Sl)} {n : Nat} {ls : List (List Sl × Nat)} (h : okI l ls) : ∀ x ∈ frS n ls, x = idl ∨ ∃ s ∈ l, x ∈ s := by
  induction n generalizing ls with
  | zero => simp [frS]
  | succ n ih =>
    intro x hx
    rw [frS] at hx
    split at hx
    · split at hx
      · next p hp =>
        split at hx
        · next y hy =>
          rcases List.mem_cons.1 hx with rfl | hx
          · exact .inr ⟨p.1, List.mem_of_getElem? (okI_mem h hp), List.mem_of_getElem? hy⟩
          · exact ih (okI_set h hp) x hx
        · cases hx
      · cases hx
    · split at hx
      · rcases List.mem_cons.1 hx with rfl | hx
        · exact .inl rfl
        · exact ih (okI_inc h) x hx
      · cases hx
theorem good_first {m : List (List Sl)} {ps : List B} (hl : okL m) (hd : diff ps) (ho : own m ps) : Good m ps (firS m) := by
  refine ⟨Nat.le_trans fr_len (rem_le hl), fr_ok hl okI_0, fun i s p hs hp => ?_, fun x hx => ?_⟩
  · have := first_of hd ho (rem (m.map ln0)) (m.map ln0) okI_0 (Nat.le_refl _) i s 0 p (by simp [hs, ln0]) hp
    rw [List.drop_zero] at this
    exact this
  · have h1 := List.mem_filter.1 hx
    rcases fr_mem okI_0 x h1.1 with rfl | ⟨s, hs, hxs⟩
    · simp [idl] at h1
    · exact mem_path ho hs hxs
theorem onl_own {m : List (List Sl)} {ps : List B} (ho : own m ps) : own (onl m) ps := by
  refine ⟨by simp [onl]; exact ho.1, fun i s p hs hp x hx => ?_⟩
  rw [onl, List.getElem?_map] at hs
  obtain ⟨t, ht, rfl⟩ := Option.map_eq_some_iff.1 hs
  exact ho.2 i t p ht hp x (List.mem_filter.1 hx).1
theorem only2 {l : List Sl} : onlyS (onlyS l) = onlyS l := List.filter_eq_self.2 fun x hx => (List.mem_filter.1 hx).2
theorem good_lot {m : List (List Sl)} {ps : List B} {ws : List Int} {k c : W} (hl : okL m) (hd : diff ps) (ho : own m ps) (hw : okW ws) (hml : m.length = ws.length) : Good m ps (lotR ws k c m) := by
  obtain ⟨h1, h2, h3⟩ := lotR_ok (ws := ws) (k := k) (c := c) hl
  refine ⟨h1, h2, fun i s p hs hp => ?_, fun x hx => ?_⟩
  · exact lot_of (k := k) hw hd (tot (onl m)) c (onl m) (by simp [onl]; exact hml) (Nat.le_refl _) (onl_own ho) (fun s hs => by obtain ⟨t, _, rfl⟩ := List.mem_map.1 hs; exact only2) i (onlyS s) p (by simp [onl, hs]) hp
  · have h4 := lot_mem (ws := ws) (k := k) (P := fun x => x.2.2.2 ∈ ps) (tot (onl m)) c (onl m) (fun s hs x hx => by
      obtain ⟨t, ht, rfl⟩ := List.mem_map.1 hs
      exact mem_path ho ht (List.mem_filter.1 hx).1)
    exact h4.2 x (List.mem_filter.1 hx).1
def wsS (n : Nat) : List Int := (List.range n).map fun j : Nat => (1 + (j : Int))
theorem ws_len {n : Nat} : (wsS n).length = n := by simp [wsS]
theorem ws_succ {n : Nat} : wsS (n + 1) = wsS n ++ [1 + (n : Int)] := by rw [wsS, List.range_succ, List.map_append]; rfl
theorem ws_ok {n : Nat} (h : n ≤ 8) : okW (wsS n) := by
  refine ⟨by rw [ws_len]; omega, fun w hw => ?_⟩
  obtain ⟨j, hj, rfl⟩ := List.mem_map.1 hw
  have := List.mem_range.1 hj
  omega
theorem ws_vld {n : Nat} (h : n ≤ 8) : vld (wsS n) n = true := by
  have := (ws_ok h).2
  simp only [vld, ws_len, Bool.and_eq_true, decide_eq_true_eq, List.all_eq_true, true_and]
  exact this
end Go.Proofs.Ar
