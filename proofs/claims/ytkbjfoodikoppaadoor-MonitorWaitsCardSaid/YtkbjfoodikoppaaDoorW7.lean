import Derived.Test.YtkbjfoodikoppaaDoorW6
set_option linter.unusedSectionVars false
set_option linter.unusedSimpArgs false
set_option linter.unusedVariables false
namespace Go.Proofs.Mn
open Go.Vx
theorem rowK_mid {m : Nat} {rows : Go.Vx.Rows} {sz : Nat} {A R : List (List D)} {c : List V} {x : List D} (hk : kpL m rows c (x.map .d)) : RowK m rows (.live sz (A.map (·.map .d) ++ c :: R.map (·.map .d))) (.live sz ((A ++ x :: R).map (·.map .d))) := by
  obtain ⟨hl, hkk⟩ := kpL_nth hk
  have hsame : ∀ (B : List (List D)) (e : List V), e ∈ B.map (·.map V.d) → ∀ v ∈ e, hB m v = true ∧ oneV v = true := fun B e he v hv => by
    obtain ⟨d, _, rfl⟩ := List.mem_map.1 he
    obtain ⟨y, _, rfl⟩ := List.mem_map.1 hv
    exact ⟨rfl, rfl⟩
  refine .cells sz _ _ (by simp) fun i e e' he he' => ?_
  rw [List.map_append, List.map_cons] at he'
  rcases Nat.lt_trichotomy i A.length with h | h | h
  · rw [List.getElem?_append_left (by simpa using h)] at he he'
    rw [he] at he'; injection he' with he'; subst he'
    refine ⟨rfl, fun j v v' hv hv' => ?_⟩
    rw [hv] at hv'; injection hv' with hv'; subst hv'
    have := hsame A e (List.mem_of_getElem? he) v (List.mem_of_getElem? hv)
    exact ⟨.same _ this.1, this.2⟩
  · subst h
    rw [List.getElem?_append_right (by simp)] at he he'
    simp at he he'
    subst he he'
    refine ⟨by rw [hl], fun j v v' hv hv' => ?_⟩
    have hj : j < c.length := (List.getElem?_eq_some_iff.1 hv).1
    have h1 := hkk j hj
    rw [nth_eq, nth_eq, hv, hv'] at h1
    simp only [Option.getD_some] at h1
    obtain ⟨y, _, rfl⟩ := List.mem_map.1 (List.mem_of_getElem? hv')
    exact ⟨h1, rfl⟩
  · rw [List.getElem?_append_right (by simp; omega)] at he he'
    have e1 : i - (A.map (·.map V.d)).length = (i - A.length - 1) + 1 := by simp; omega
    rw [e1, List.getElem?_cons_succ] at he he'
    rw [he] at he'; injection he' with he'; subst he'
    refine ⟨rfl, fun j v v' hv hv' => ?_⟩
    rw [hv] at hv'; injection hv' with hv'; subst hv'
    have := hsame R e (List.mem_of_getElem? he) v (List.mem_of_getElem? hv)
    exact ⟨.same _ this.1, this.2⟩
theorem getA_mid {α : Type} {A R : List α} {c : α} {i : Nat} {g : α → Prop} (h : i = A.length) (hg : g c) : getA (A ++ c :: R) i g :=
  getA_iff.2 ⟨c, by subst h; simp, hg⟩
theorem set_mid {α : Type} {A R : List α} {c c' : α} {i : Nat} (h : i = A.length) : (A ++ c :: R).set i c' = A ++ c' :: R := by subst h; simp
abbrev rowO (l : List (List Int)) (i : Nat) : RowS := .live 1 ((rws (l.take i)).map (·.map .d) ++ List.replicate (l.length - i) [.d .nils])
theorem t43 (l : List (List Int)) (hl : l.length ≤ 100000) (ok : ∀ r ∈ l, r.length ≤ 100000) : CallP Tryd.prog 43 [.d (.sl 1 (rws l))] (.d (.sl 1 (rws l))) := by
  have hb := mxB; have hm := hm; have hL := mL
  refine go43 ac43 rfl ?_
  simp only [vx, vz, Nat.reduceAdd, Nat.reduceSub, Nat.reduceMul, Nat.reduceLeDiff, Nat.reduceLT, Nat.reduceEqDiff, Nat.reduceBEq, Int.reduceToNat, Int.reduceNeg, Int.reduceEq, Int.reduceNe, Int.reduceLE, Int.reduceLT, reduceCtorEq, ↓reduceIte, ac43]
  refine ⟨by omega, by omega, by omega, by omega, ?_⟩
  refine loop_st (fun i : Nat => ⟨mkF 30 [(3, .osl 1 0 l.length 0 l.length), (9, .d (.sl 1 (rws l))), (10, .d (.int .i64 l.length)), (11, .d (.int .i64 i))], [rowO l i]⟩) (fun i => i ≤ l.length) (fun i => l.length - i) 0 ?_ (by omega) (fun i hi => ?_)
  · refine weak_any' (by simp) ?_
    simp only [vx, vz, Nat.reduceAdd, Nat.reduceSub, Nat.reduceMul, Nat.reduceLeDiff, Nat.reduceLT, Nat.reduceEqDiff, Nat.reduceBEq, Int.reduceToNat, Int.reduceNeg, Int.reduceEq, Int.reduceNe, Int.reduceLE, Int.reduceLT, reduceCtorEq, ↓reduceIte]
  · have hti : ((rws (l.take i)).map (·.map V.d)).length = i := by simp; omega
    simp only [vx, vz, Nat.reduceAdd, Nat.reduceSub, Nat.reduceMul, Nat.reduceLeDiff, Nat.reduceLT, Nat.reduceEqDiff, Nat.reduceBEq, Int.reduceToNat, Int.reduceNeg, Int.reduceEq, Int.reduceNe, Int.reduceLE, Int.reduceLT, reduceCtorEq, ↓reduceIte]
    refine cond_split (fun hc => ?_) (fun hc => ?_)
    · simp only [decide_eq_true_eq] at hc
      obtain ⟨r, hr⟩ := get_ex (l := l) (i := i) (by omega)
      have hrl := ok r (List.mem_of_getElem? hr)
      have hro : rowO l i = .live 1 ((rws (l.take i)).map (·.map .d) ++ [.d .nils] :: (List.replicate (l.length - (i + 1)) [D.nils]).map (·.map .d)) := by
        rw [rowO, show l.length - i = (l.length - (i + 1)) + 1 by omega, List.replicate_succ, List.map_replicate]; rfl
      rw [hro]
      simp only [vx, vz, Nat.reduceAdd, Nat.reduceSub, Nat.reduceMul, Nat.reduceLeDiff, Nat.reduceLT, Nat.reduceEqDiff, Nat.reduceBEq, Int.reduceToNat, Int.reduceNeg, Int.reduceEq, Int.reduceNe, Int.reduceLE, Int.reduceLT, reduceCtorEq, ↓reduceIte]
      refine ⟨by omega, by omega, getM_at hr ?_⟩
      simp only [vx, vz, Nat.reduceAdd, Nat.reduceSub, Nat.reduceMul, Nat.reduceLeDiff, Nat.reduceLT, Nat.reduceEqDiff, Nat.reduceBEq, Int.reduceToNat, Int.reduceNeg, Int.reduceEq, Int.reduceNe, Int.reduceLE, Int.reduceLT, reduceCtorEq, ↓reduceIte]
      simp only [vx, vz, Nat.reduceAdd, Nat.reduceSub, Nat.reduceMul, Nat.reduceLeDiff, Nat.reduceLT, Nat.reduceEqDiff, Nat.reduceBEq, Int.reduceToNat, Int.reduceNeg, Int.reduceEq, Int.reduceNe, Int.reduceLE, Int.reduceLT, reduceCtorEq, ↓reduceIte, rwD]
      have h1 : (l.take i).length + ((List.replicate (l.length - (i + 1)) [D.nils]).length + 1) = l.length := by rw [List.length_take, List.length_replicate]; omega
      have hti' : i = ((rws (l.take i)).map (·.map V.d)).length := hti.symm
      refine ⟨by omega, by omega, by omega, by omega, by omega, by omega, h1, h1, getA_mid hti' ?_⟩
      simp only [vx, vz, Nat.reduceAdd, Nat.reduceSub, Nat.reduceMul, Nat.reduceLeDiff, Nat.reduceLT, Nat.reduceEqDiff, Nat.reduceBEq, Int.reduceToNat, Int.reduceNeg, Int.reduceEq, Int.reduceNe, Int.reduceLE, Int.reduceLT, reduceCtorEq, ↓reduceIte]
      rw [set_mid hti']
      have h2 : (List.map (fun x => List.map V.d x) (rws (List.take i l)) ++ [V.osl 1 1 r.length 0 r.length] :: List.map (fun x => List.map V.d x) (List.replicate (l.length - (i + 1)) [D.nils])).length = l.length := by
        simp only [List.length_append, List.length_map, List.length_cons]; exact h1
      refine ⟨by omega, by omega, h2, h2, getA_mid hti' ?_⟩
      simp only [vx, vz, Nat.reduceAdd, Nat.reduceSub, Nat.reduceMul, Nat.reduceLeDiff, Nat.reduceLT, Nat.reduceEqDiff, Nat.reduceBEq, Int.reduceToNat, Int.reduceNeg, Int.reduceEq, Int.reduceNe, Int.reduceLE, Int.reduceLT, reduceCtorEq, ↓reduceIte]
      have h3 : List.take r.length (List.map (fun x => List.map V.d x) (ints r)) ++ List.drop (min r.length r.length) (List.replicate r.length [V.d (D.int IntKind.i64 0)]) = (ints r).map (·.map .d) := by
        rw [List.take_of_length_le (by simp), List.drop_eq_nil_of_le (by simp), List.append_nil]
      rw [h3]
      refine ⟨List.length_replicate, ls_n (i + 1) (by omega) (Weak.trans (weak_any ?_) (weak_frz2 1 (by omega) ⟨?_, trivial⟩ (kpL_refl rfl))) (by omega)⟩
      · simp only [vx, vz, Nat.reduceAdd, Nat.reduceSub, Nat.reduceMul, Nat.reduceLeDiff, Nat.reduceLT, Nat.reduceEqDiff, Nat.reduceBEq, Int.reduceToNat, Int.reduceNeg, Int.reduceEq, Int.reduceNe, Int.reduceLE, Int.reduceLT, reduceCtorEq, ↓reduceIte]
        rw [wr_i64 (by omega) (by omega)]
        first | trivial | exact ⟨rfl, rfl⟩
      · have e : rowO l (i + 1) = .live 1 ((rws (l.take i) ++ rwD r :: List.replicate (l.length - (i + 1)) [D.nils]).map (·.map .d)) := by
          rw [rowO, take_at hr]
          simp [List.map_append, List.map_replicate]
        rw [e]
        exact rowK_mid (x := rwD r) ⟨.snap _ _ (sn_all (es := ints r) rfl (by simp) szi), trivial⟩
    · simp only [decide_eq_false_iff_not] at hc
      obtain rfl : i = l.length := by omega
      simp only [vx, vz, Nat.reduceAdd, Nat.reduceSub, Nat.reduceMul, Nat.reduceLeDiff, Nat.reduceLT, Nat.reduceEqDiff, Nat.reduceBEq, Int.reduceToNat, Int.reduceNeg, Int.reduceEq, Int.reduceNe, Int.reduceLE, Int.reduceLT, reduceCtorEq, ↓reduceIte]
      rw [rowO, List.take_of_length_le (Nat.le_refl _), Nat.sub_self, List.replicate_zero, List.append_nil]
      exact sn_all (es := rws l) rfl (by simp) szw
/-- the rows i to j -/
def cutW (w : Wv) (i j : Nat) : Wv := ⟨w.ns, (w.rs.take j).drop i⟩
theorem t24 (w : Wv) (i j : Nat) (okw : okW w) (hv : vldW w = true) (hij : i ≤ j) (hj : j ≤ w.rs.length) : CallP Tryd.prog 24 [wvV w, .d (.int .i64 i), .d (.int .i64 j)] (.tup [wvV (cutW w i j), .d (.int .i64 0)]) := by
  have hb := mxB; have hm := hm; have hL := mL
  obtain ⟨k1, k2, k3, k4⟩ := vldW_in hv
  refine go24 ac24 rfl ?_
  simp only [vx, vz, Nat.reduceAdd, Nat.reduceSub, Nat.reduceMul, Nat.reduceLeDiff, Nat.reduceLT, Nat.reduceEqDiff, Nat.reduceBEq, Int.reduceToNat, Int.reduceNeg, Int.reduceEq, Int.reduceNe, Int.reduceLE, Int.reduceLT, reduceCtorEq, ↓reduceIte, ac24]
  refine call_p rfl (t41 w okw) ?_
  simp only [vx, vz, Nat.reduceAdd, Nat.reduceSub, Nat.reduceMul, Nat.reduceLeDiff, Nat.reduceLT, Nat.reduceEqDiff, Nat.reduceBEq, Int.reduceToNat, Int.reduceNeg, Int.reduceEq, Int.reduceNe, Int.reduceLE, Int.reduceLT, reduceCtorEq, ↓reduceIte]
  rw [hv]
  simp only [vx, vz, Nat.reduceAdd, Nat.reduceSub, Nat.reduceMul, Nat.reduceLeDiff, Nat.reduceLT, Nat.reduceEqDiff, Nat.reduceBEq, Int.reduceToNat, Int.reduceNeg, Int.reduceEq, Int.reduceNe, Int.reduceLE, Int.reduceLT, reduceCtorEq, ↓reduceIte, df (show ¬ (i : Int) < 0 by omega), df (show ¬ (j : Int) < i by omega), df (show ¬ (w.rs.length : Int) < j by omega)]
  refine c_draw ?_
  simp only [vx, vz, Nat.reduceAdd, Nat.reduceSub, Nat.reduceMul, Nat.reduceLeDiff, Nat.reduceLT, Nat.reduceEqDiff, Nat.reduceBEq, Int.reduceToNat, Int.reduceNeg, Int.reduceEq, Int.reduceNe, Int.reduceLE, Int.reduceLT, reduceCtorEq, ↓reduceIte]
  repeat (refine d_k rfl rfl ?_; simp only [vx, vz, Nat.reduceAdd, Nat.reduceSub, Nat.reduceMul, Nat.reduceLeDiff, Nat.reduceLT, Nat.reduceEqDiff, Nat.reduceBEq, Int.reduceToNat, Int.reduceNeg, Int.reduceEq, Int.reduceNe, Int.reduceLE, Int.reduceLT, reduceCtorEq, ↓reduceIte])
  refine call_p rfl (t42 w.ns (by omega)) ?_
  repeat (refine d_k rfl rfl ?_; simp only [vx, vz, Nat.reduceAdd, Nat.reduceSub, Nat.reduceMul, Nat.reduceLeDiff, Nat.reduceLT, Nat.reduceEqDiff, Nat.reduceBEq, Int.reduceToNat, Int.reduceNeg, Int.reduceEq, Int.reduceNe, Int.reduceLE, Int.reduceLT, reduceCtorEq, ↓reduceIte])
  refine ⟨by omega, by omega, by omega, ?_⟩
  repeat (refine d_k rfl rfl ?_; simp only [vx, vz, Nat.reduceAdd, Nat.reduceSub, Nat.reduceMul, Nat.reduceLeDiff, Nat.reduceLT, Nat.reduceEqDiff, Nat.reduceBEq, Int.reduceToNat, Int.reduceNeg, Int.reduceEq, Int.reduceNe, Int.reduceLE, Int.reduceLT, reduceCtorEq, ↓reduceIte])
  rw [show List.drop i (List.take j (rws w.rs)) = rws ((w.rs.take j).drop i) by simp [rws, List.map_drop, List.map_take]]
  refine call_p rfl (t43 ((w.rs.take j).drop i) (by rw [List.length_drop, List.length_take]; omega) (fun r hr => by have := (k4 r (List.mem_of_mem_take (List.mem_of_mem_drop hr))).1; omega)) ?_
  repeat (refine d_k rfl rfl ?_; simp only [vx, vz, Nat.reduceAdd, Nat.reduceSub, Nat.reduceMul, Nat.reduceLeDiff, Nat.reduceLT, Nat.reduceEqDiff, Nat.reduceBEq, Int.reduceToNat, Int.reduceNeg, Int.reduceEq, Int.reduceNe, Int.reduceLE, Int.reduceLT, reduceCtorEq, ↓reduceIte])
  exact ⟨.d _, .d _⟩
end Go.Proofs.Mn

namespace Go.Proofs.Mn
open Go.Vx
theorem cut_get (w : Wv) (i j t : Nat) (h : i + t < j) : (cutW w i j).rs[t]? = w.rs[i + t]? := by
  rw [cutW, List.getElem?_drop, List.getElem?_take, if_pos h]
theorem cut_rl (w : Wv) {i j : Nat} (hj : j ≤ w.rs.length) : (cutW w i j).rs.length = j - i := by
  rw [cutW, List.length_drop, List.length_take]; omega
theorem cut_mem {w : Wv} {i j : Nat} {r : List Int} (h : r ∈ (cutW w i j).rs) : r ∈ w.rs := List.mem_of_mem_take (List.mem_of_mem_drop h)
theorem cut_ok {w : Wv} {i j : Nat} (ok : okW w) : okW (cutW w i j) :=
  ⟨ok.nl, ok.ns, by have := ok.rl; rw [cutW, List.length_drop, List.length_take]; omega, fun r hr => ok.rs r (cut_mem hr)⟩
theorem cut_vld {w : Wv} {i j : Nat} (hv : vldW w = true) : vldW (cutW w i j) = true := by
  unfold vldW at hv ⊢
  simp only [Bool.and_eq_true, decide_eq_true_eq, List.all_eq_true] at hv ⊢
  obtain ⟨h1, h2, h3, h4⟩ := hv
  refine ⟨h1, ?_, h3, fun r hr => h4 r (cut_mem hr)⟩
  rw [cutW, List.length_drop, List.length_take]; omega
theorem cut_err {w : Wv} {c : Chn} {i j : Nat} (he : errS w [c] = 0) : errS (cutW w i j) [c] = 0 := by
  obtain ⟨_, hv, hk⟩ := opn_ok he
  have hk' := hk c (by simp)
  have e : knwS (cutW w i j) c = knwS w c := rfl
  unfold errS at he ⊢
  rw [cut_vld hv]
  rw [hv] at he
  simpa [e] using he
theorem cut_val {w : Wv} {s : B} {i j t : Nat} (hv : vldW w = true) (hj : j ≤ w.rs.length) (ht : i + t < j) : valS (cutW w i j) s t = valS w s (i + t : Nat) := by
  unfold valS
  have e : (cutW w i j).ns = w.ns := rfl
  rw [cut_vld hv, e, hv, cut_rl w hj]
  by_cases hp : 0 ≤ plc w.ns s 0
  · rw [if_pos ⟨rfl, hp, by omega, by omega⟩, if_pos ⟨rfl, hp, by omega, by omega⟩]
    rw [Int.toNat_natCast, Int.toNat_natCast, List.getD_eq_getElem?_getD (l := (cutW w i j).rs), cut_get w i j t ht, ← List.getD_eq_getElem?_getD]
  · rw [if_neg (fun h => hp h.2.1), if_neg (fun h => hp h.2.1)]
theorem cut_mov {w : Wv} {c : Chn} {i j t : Nat} (hv : vldW w = true) (hj : j ≤ w.rs.length) (ht : i + t < j) : movS (cutW w i j) c t = movS w c (i + t : Nat) := by
  unfold movS; rw [cut_val hv hj ht, cut_val hv hj ht]
theorem cut_flds {w : Wv} {c : Chn} {i j t : Nat} (hv : vldW w = true) (hj : j ≤ w.rs.length) (ht : i + t < j) : flds (cutW w i j) c t = flds w c (i + t : Nat) := by
  unfold flds
  exact List.map_congr_left fun s _ => cut_val hv hj ht
theorem trf_f {w : Wv} {c : Chn} {n : Nat} (h : movS w c n = false) : trfS w c (n + 1) = trfS w c n := by rw [trfS, trs_f h]; rfl
theorem cut_trf {w : Wv} {c : Chn} {i j : Nat} (hv : vldW w = true) (hj : j ≤ w.rs.length) : ∀ m, i + m ≤ j → trfS w c (i + m) = trfS w c i ++ trfS (cutW w i j) c m
  | 0, _ => by simp [trfS, trsN]
  | m + 1, h => by
    have ih := cut_trf (c := c) (i := i) hv hj m (by omega)
    have h1 := cut_mov (c := c) hv hj (show i + m < j by omega)
    rw [show i + (m + 1) = i + m + 1 from rfl]
    cases hm : movS w c (i + m : Nat) with
    | true =>
      rw [hm] at h1
      rw [trf_t hm, trf_t h1, ih, cut_flds hv hj (by omega), List.append_assoc]
    | false =>
      rw [hm] at h1
      rw [trf_f hm, trf_f h1, ih]
theorem cut_brk {w : Wv} {c : Chn} {i j u : Nat} (hv : vldW w = true) (hj : j ≤ w.rs.length) (ht : i + (u + 1) < j) : brkS (cutW w i j) c u = brkS w c (i + u) := by
  unfold brkS
  rw [cut_val hv hj (by omega), cut_val hv hj (by omega), cut_val hv hj ht, cut_flds hv hj (by omega), cut_flds hv hj ht]
  rfl
theorem stb_no {w : Wv} {c : Chn} : ∀ n u, (∀ v, u ≤ v → v < u + n → brkS w c v = false) → stbG w c n u = -1
  | 0, _, _ => rfl
  | n + 1, u, h => by
    rw [stbG, if_neg (by rw [h u (Nat.le_refl _) (by omega)]; decide)]
    exact stb_no n (u + 1) fun v h1 h2 => h v (by omega) (by omega)
theorem stb_cases (w : Wv) (c : Chn) : ∀ n u, stbG w c n u = -1 ∨ ∃ v, u ≤ v ∧ v < u + n ∧ stbG w c n u = ((v + 1 : Nat) : Int) ∧ brkS w c v = true ∧ ∀ x, u ≤ x → x < v → brkS w c x = false
  | 0, _ => .inl rfl
  | n + 1, u => by
    rw [stbG]
    by_cases h : brkS w c u = true
    · rw [if_pos h]
      exact .inr ⟨u, Nat.le_refl _, by omega, rfl, h, fun x h1 h2 => by omega⟩
    · rw [if_neg h]
      rcases stb_cases w c n (u + 1) with h1 | ⟨v, h1, h2, h3, h4, h5⟩
      · exact .inl h1
      · refine .inr ⟨v, by omega, by omega, h3, h4, fun x h6 h7 => ?_⟩
        by_cases hx : x = u
        · subst hx; simpa using h
        · exact h5 x (by omega) h7
end Go.Proofs.Mn

namespace Go.Proofs.Mn
open Go.Vx
theorem trf_okL (w : Wv) (c : Chn) (n : Nat) (h1 : c.fs.length ≤ 30) (h2 : n ≤ 100000) : okL (trfS w c n) := by
  have hL := mL
  refine ⟨by have := trf_len w c n; omega, fun t ht => ?_⟩
  rw [trfS, List.mem_map] at ht
  obtain ⟨n, _, rfl⟩ := ht
  exact ⟨by simp only; omega, by simp only [flds, List.length_map]; omega⟩
theorem dataBack (es : List (List D)) : (es.map (·.map V.d)).map (·.map toD) = es := by
  rw [List.map_map]
  have : ((fun x : List V => x.map toD) ∘ fun x : List D => x.map V.d) = id := by
    funext x
    simp only [Function.comp, List.map_map, id]
    have : (toD ∘ V.d) = id := rfl
    rw [this, List.map_id]
  rw [this, List.map_id]
theorem snap_row {rows : Go.Vx.Rows} {h sz n : Nat} {es : List (List D)} (hr : rows[h]? = some (.live sz (es.map (·.map .d)))) (hn : es.length = n) : snapOk rows (.osl sz h n 0 n) ∧ snapV rows (.osl sz h n 0 n) = .d (.sl sz es) := by
  refine ⟨⟨by omega, _, hr, by simpa using hn, fun e he v hv => ?_⟩, ?_⟩
  · obtain ⟨d, _, rfl⟩ := List.mem_map.1 he
    obtain ⟨y, _, rfl⟩ := List.mem_map.1 hv
    rfl
  · simp only [snapV, snapC, hr]
    rw [List.drop_zero, List.take_of_length_le (by simp [hn]), dataBack]
set_option maxRecDepth 100000 in
theorem t7 (w : Wv) (c : Chn) (k : Int) (okw : okW w) (okn : okN c) : CallP Tryd.prog 7 [wvV w, chV c, .d (.int .i64 k)] (.d (.bool true)) := by
  have hL := mL; have hm := hm; have hb := mxB
  refine go7 ac7 rfl ?_
  simp only [vx, vz, Nat.reduceAdd, Nat.reduceSub, Nat.reduceMul, Nat.reduceLeDiff, Nat.reduceLT, Nat.reduceEqDiff, Nat.reduceBEq, Int.reduceToNat, Int.reduceNeg, Int.reduceEq, Int.reduceNe, Int.reduceLE, Int.reduceLT, reduceCtorEq, ↓reduceIte, ac7]
  refine call_p rfl (t9 w c c) ?_
  simp only [vx, vz, Nat.reduceAdd, Nat.reduceSub, Nat.reduceMul, Nat.reduceLeDiff, Nat.reduceLT, Nat.reduceEqDiff, Nat.reduceBEq, Int.reduceToNat, Int.reduceNeg, Int.reduceEq, Int.reduceNe, Int.reduceLE, Int.reduceLT, reduceCtorEq, ↓reduceIte]
  cases hf : fewS w c c with
  | false =>
    simp only [vx, vz, Nat.reduceAdd, Nat.reduceSub, Nat.reduceMul, Nat.reduceLeDiff, Nat.reduceLT, Nat.reduceEqDiff, Nat.reduceBEq, Int.reduceToNat, Int.reduceNeg, Int.reduceEq, Int.reduceNe, Int.reduceLE, Int.reduceLT, reduceCtorEq, ↓reduceIte]
    refine call_p rfl (t10) ?_
    simp only [vx, vz, Nat.reduceAdd, Nat.reduceSub, Nat.reduceMul, Nat.reduceLeDiff, Nat.reduceLT, Nat.reduceEqDiff, Nat.reduceBEq, Int.reduceToNat, Int.reduceNeg, Int.reduceEq, Int.reduceNe, Int.reduceLE, Int.reduceLT, reduceCtorEq, ↓reduceIte]
  | true =>
    obtain ⟨f1, f2, f3, f4⟩ := few_in hf
    have ca : okC c := ⟨f3, okn⟩
    have c1 := t11 w c okw ca
    unfold trfV at c1
    simp only [vx, vz, Nat.reduceAdd, Nat.reduceSub, Nat.reduceMul, Nat.reduceLeDiff, Nat.reduceLT, Nat.reduceEqDiff, Nat.reduceBEq, Int.reduceToNat, Int.reduceNeg, Int.reduceEq, Int.reduceNe, Int.reduceLE, Int.reduceLT, reduceCtorEq, ↓reduceIte]
    refine call_p rfl (c1) ?_
    simp only [vx, vz, Nat.reduceAdd, Nat.reduceSub, Nat.reduceMul, Nat.reduceLeDiff, Nat.reduceLT, Nat.reduceEqDiff, Nat.reduceBEq, Int.reduceToNat, Int.reduceNeg, Int.reduceEq, Int.reduceNe, Int.reduceLE, Int.reduceLT, reduceCtorEq, ↓reduceIte]
    by_cases he : errS w [c] = 0
    · obtain ⟨_, hv, hk⟩ := opn_ok he
      rw [if_pos he]
      simp only [vx, vz, Nat.reduceAdd, Nat.reduceSub, Nat.reduceMul, Nat.reduceLeDiff, Nat.reduceLT, Nat.reduceEqDiff, Nat.reduceBEq, Int.reduceToNat, Int.reduceNeg, Int.reduceEq, Int.reduceNe, Int.reduceLE, Int.reduceLT, reduceCtorEq, ↓reduceIte, he]
      by_cases hk0 : k < 0
      · simp only [vx, vz, Nat.reduceAdd, Nat.reduceSub, Nat.reduceMul, Nat.reduceLeDiff, Nat.reduceLT, Nat.reduceEqDiff, Nat.reduceBEq, Int.reduceToNat, Int.reduceNeg, Int.reduceEq, Int.reduceNe, Int.reduceLE, Int.reduceLT, reduceCtorEq, ↓reduceIte, dt hk0]
        refine call_p rfl (t10) ?_
        simp only [vx, vz, Nat.reduceAdd, Nat.reduceSub, Nat.reduceMul, Nat.reduceLeDiff, Nat.reduceLT, Nat.reduceEqDiff, Nat.reduceBEq, Int.reduceToNat, Int.reduceNeg, Int.reduceEq, Int.reduceNe, Int.reduceLE, Int.reduceLT, reduceCtorEq, ↓reduceIte]
      by_cases hk1 : (w.rs.length : Int) < k
      · simp only [vx, vz, Nat.reduceAdd, Nat.reduceSub, Nat.reduceMul, Nat.reduceLeDiff, Nat.reduceLT, Nat.reduceEqDiff, Nat.reduceBEq, Int.reduceToNat, Int.reduceNeg, Int.reduceEq, Int.reduceNe, Int.reduceLE, Int.reduceLT, reduceCtorEq, ↓reduceIte, df hk0, dt hk1]
        refine call_p rfl (t10) ?_
        simp only [vx, vz, Nat.reduceAdd, Nat.reduceSub, Nat.reduceMul, Nat.reduceLeDiff, Nat.reduceLT, Nat.reduceEqDiff, Nat.reduceBEq, Int.reduceToNat, Int.reduceNeg, Int.reduceEq, Int.reduceNe, Int.reduceLE, Int.reduceLT, reduceCtorEq, ↓reduceIte]
      simp only [vx, vz, Nat.reduceAdd, Nat.reduceSub, Nat.reduceMul, Nat.reduceLeDiff, Nat.reduceLT, Nat.reduceEqDiff, Nat.reduceBEq, Int.reduceToNat, Int.reduceNeg, Int.reduceEq, Int.reduceNe, Int.reduceLE, Int.reduceLT, reduceCtorEq, ↓reduceIte, df hk0, df hk1]
      obtain ⟨m, hm2⟩ : ∃ m : Nat, k = m := ⟨k.toNat, by omega⟩
      rw [hm2]
      have c2 := t24 w 0 m okw hv (by omega) (by omega)
      have c3 := t24 w m w.rs.length okw hv (by omega) (Nat.le_refl _)
      have c4 := t11 (cutW w 0 m) c (cut_ok okw) ca
      have c5 := t11 (cutW w m w.rs.length) c (cut_ok okw) ca
      unfold trfV at c4 c5
      rw [cut_err he, if_pos rfl, cut_rl w (by omega), Nat.sub_zero] at c4
      rw [cut_err he, if_pos rfl, cut_rl w (Nat.le_refl _)] at c5
      have e1 := cut_trf (c := c) (i := 0) (j := m) hv (by omega) m (by omega)
      have e2 := cut_trf (c := c) (i := m) (j := w.rs.length) hv (Nat.le_refl _) (w.rs.length - m) (by omega)
      rw [show trfS w c 0 = [] from rfl, List.nil_append, Nat.zero_add] at e1
      rw [show m + (w.rs.length - m) = w.rs.length by omega, e1] at e2
      have hl := trf_okL w c w.rs.length f3 (by omega)
      have hlen := trf_len w c w.rs.length
      rw [e2] at hl hlen ⊢
      generalize trfS (cutW w 0 m) c m = p at *
      generalize trfS (cutW w m w.rs.length) c (w.rs.length - m) = q at *
      rw [List.length_append] at hlen
      refine call_p rfl (c2) ?_
      simp only [vx, vz, Nat.reduceAdd, Nat.reduceSub, Nat.reduceMul, Nat.reduceLeDiff, Nat.reduceLT, Nat.reduceEqDiff, Nat.reduceBEq, Int.reduceToNat, Int.reduceNeg, Int.reduceEq, Int.reduceNe, Int.reduceLE, Int.reduceLT, reduceCtorEq, ↓reduceIte]
      refine call_p rfl (c3) ?_
      simp only [vx, vz, Nat.reduceAdd, Nat.reduceSub, Nat.reduceMul, Nat.reduceLeDiff, Nat.reduceLT, Nat.reduceEqDiff, Nat.reduceBEq, Int.reduceToNat, Int.reduceNeg, Int.reduceEq, Int.reduceNe, Int.reduceLE, Int.reduceLT, reduceCtorEq, ↓reduceIte]
      refine call_p rfl (c4) ?_
      simp only [vx, vz, Nat.reduceAdd, Nat.reduceSub, Nat.reduceMul, Nat.reduceLeDiff, Nat.reduceLT, Nat.reduceEqDiff, Nat.reduceBEq, Int.reduceToNat, Int.reduceNeg, Int.reduceEq, Int.reduceNe, Int.reduceLE, Int.reduceLT, reduceCtorEq, ↓reduceIte]
      refine call_p rfl (c5) ?_
      simp only [vx, vz, Nat.reduceAdd, Nat.reduceSub, Nat.reduceMul, Nat.reduceLeDiff, Nat.reduceLT, Nat.reduceEqDiff, Nat.reduceBEq, Int.reduceToNat, Int.reduceNeg, Int.reduceEq, Int.reduceNe, Int.reduceLE, Int.reduceLT, reduceCtorEq, ↓reduceIte]
      refine ⟨by omega, by omega, ?_⟩
      have hrow : ∀ (r0 r1 r2 r3 r5 : RowS), [r0, r1, r2, r3, .live 2 (List.map (fun x => List.map V.d x) (txs p) ++ List.map (fun x => List.map V.d x) (txs q)), r5][4]? = some (.live 2 ((txs (p ++ q)).map (·.map .d))) := fun r0 r1 r2 r3 r5 => by simp [txs]
      obtain ⟨z1, z2⟩ := snap_row (hrow (.live 2 [[.d (.sl 1 (strs w.ns)), .d (.sl 1 (rws w.rs))]]) (.live 3 [[.d (.str c.va), .d (.str c.rd), .d (.sl 1 (strs c.fs))]]) (.live 2 [[.d (.sl 1 (strs (cutW w 0 m).ns)), .d (.sl 1 (rws (cutW w 0 m).rs))]]) (.live 2 [[.d (.sl 1 (strs (cutW w m w.rs.length).ns)), .d (.sl 1 (rws (cutW w m w.rs.length).rs))]]) .un) (n := p.length + q.length) (by simp)
      refine call_s (v := .d (.bool true)) (fun y hy => ?_) rfl ?_ ?_
      · simp only [List.nil_append, List.append_nil, List.mem_cons, List.not_mem_nil, or_false] at hy
        rcases hy with rfl | rfl
        · simp [snapOk, snapCOk, noH, noH1]
        · exact z1
      · simp only [List.nil_append, List.append_nil, List.map_cons, List.map_nil]
        rw [z2]
        exact t17 (p ++ q) hl
      simp only [vx, vz, Nat.reduceAdd, Nat.reduceSub, Nat.reduceMul, Nat.reduceLeDiff, Nat.reduceLT, Nat.reduceEqDiff, Nat.reduceBEq, Int.reduceToNat, Int.reduceNeg, Int.reduceEq, Int.reduceNe, Int.reduceLE, Int.reduceLT, reduceCtorEq, ↓reduceIte]
      refine call_p rfl (t10) ?_
      simp only [vx, vz, Nat.reduceAdd, Nat.reduceSub, Nat.reduceMul, Nat.reduceLeDiff, Nat.reduceLT, Nat.reduceEqDiff, Nat.reduceBEq, Int.reduceToNat, Int.reduceNeg, Int.reduceEq, Int.reduceNe, Int.reduceLE, Int.reduceLT, reduceCtorEq, ↓reduceIte]
    · rw [if_neg he]
      simp only [vx, vz, Nat.reduceAdd, Nat.reduceSub, Nat.reduceMul, Nat.reduceLeDiff, Nat.reduceLT, Nat.reduceEqDiff, Nat.reduceBEq, Int.reduceToNat, Int.reduceNeg, Int.reduceEq, Int.reduceNe, Int.reduceLE, Int.reduceLT, reduceCtorEq, ↓reduceIte, dt he]
      refine call_p rfl (t10) ?_
      simp only [vx, vz, Nat.reduceAdd, Nat.reduceSub, Nat.reduceMul, Nat.reduceLeDiff, Nat.reduceLT, Nat.reduceEqDiff, Nat.reduceBEq, Int.reduceToNat, Int.reduceNeg, Int.reduceEq, Int.reduceNe, Int.reduceLE, Int.reduceLT, reduceCtorEq, ↓reduceIte]
end Go.Proofs.Mn

namespace Go.Proofs.Mn
open Go.Vx
/-- is a signal never 0 before a cycle? -/
def nvr (w : Wv) (s : B) (t : Nat) : Bool := (List.range t).all fun u => !decide (valS w s u = 0)
theorem nvr_at (w : Wv) (s : B) (t : Nat) : nvr w s (t + 1) = (nvr w s t && !decide (valS w s t = 0)) := by
  rw [nvr, List.range_succ, List.all_append, nvr]; simp
theorem nvr_no {w : Wv} {s : B} {t u : Nat} (h : u < t) (h2 : valS w s u = 0) : nvr w s t = false := by
  rw [nvr, List.all_eq_false]
  exact ⟨u, List.mem_range.2 h, by simp [h2]⟩
set_option maxRecDepth 100000 in
set_option maxHeartbeats 1000000 in
theorem t8 (w : Wv) (c : Chn) (okw : okW w) (okn : okN c) : CallP Tryd.prog 8 [wvV w, chV c] (.d (.bool true)) := by
  have hL := mL; have hm := hm; have hb := mxB
  refine go8 ac8 rfl ?_
  simp only [vx, vz, Nat.reduceAdd, Nat.reduceSub, Nat.reduceMul, Nat.reduceLeDiff, Nat.reduceLT, Nat.reduceEqDiff, Nat.reduceBEq, Int.reduceToNat, Int.reduceNeg, Int.reduceEq, Int.reduceNe, Int.reduceLE, Int.reduceLT, reduceCtorEq, ↓reduceIte, ac8]
  refine call_p rfl (t9 w c c) ?_
  simp only [vx, vz, Nat.reduceAdd, Nat.reduceSub, Nat.reduceMul, Nat.reduceLeDiff, Nat.reduceLT, Nat.reduceEqDiff, Nat.reduceBEq, Int.reduceToNat, Int.reduceNeg, Int.reduceEq, Int.reduceNe, Int.reduceLE, Int.reduceLT, reduceCtorEq, ↓reduceIte]
  cases hf : fewS w c c with
  | false =>
    simp only [vx, vz, Nat.reduceAdd, Nat.reduceSub, Nat.reduceMul, Nat.reduceLeDiff, Nat.reduceLT, Nat.reduceEqDiff, Nat.reduceBEq, Int.reduceToNat, Int.reduceNeg, Int.reduceEq, Int.reduceNe, Int.reduceLE, Int.reduceLT, reduceCtorEq, ↓reduceIte]
    refine call_p rfl (t10) ?_
    simp only [vx, vz, Nat.reduceAdd, Nat.reduceSub, Nat.reduceMul, Nat.reduceLeDiff, Nat.reduceLT, Nat.reduceEqDiff, Nat.reduceBEq, Int.reduceToNat, Int.reduceNeg, Int.reduceEq, Int.reduceNe, Int.reduceLE, Int.reduceLT, reduceCtorEq, ↓reduceIte]
  | true =>
    obtain ⟨f1, f2, f3, f4⟩ := few_in hf
    have ca : okC c := ⟨f3, okn⟩
    have c1 := t19 w c okw ca
    unfold stbV at c1
    simp only [vx, vz, Nat.reduceAdd, Nat.reduceSub, Nat.reduceMul, Nat.reduceLeDiff, Nat.reduceLT, Nat.reduceEqDiff, Nat.reduceBEq, Int.reduceToNat, Int.reduceNeg, Int.reduceEq, Int.reduceNe, Int.reduceLE, Int.reduceLT, reduceCtorEq, ↓reduceIte]
    refine call_p rfl (c1) ?_
    simp only [vx, vz, Nat.reduceAdd, Nat.reduceSub, Nat.reduceMul, Nat.reduceLeDiff, Nat.reduceLT, Nat.reduceEqDiff, Nat.reduceBEq, Int.reduceToNat, Int.reduceNeg, Int.reduceEq, Int.reduceNe, Int.reduceLE, Int.reduceLT, reduceCtorEq, ↓reduceIte]
    by_cases he : errS w [c] = 0
    · obtain ⟨_, hv, hk⟩ := opn_ok he
      rw [if_pos he]
      simp only [vx, vz, Nat.reduceAdd, Nat.reduceSub, Nat.reduceMul, Nat.reduceLeDiff, Nat.reduceLT, Nat.reduceEqDiff, Nat.reduceBEq, Int.reduceToNat, Int.reduceNeg, Int.reduceEq, Int.reduceNe, Int.reduceLE, Int.reduceLT, reduceCtorEq, ↓reduceIte, he]
      refine loop_st (fun t : Nat => ⟨mkF 141 [(2, .optr 2 0 1 0 0), (3, .optr 3 1 1 0 0), (5, .d (.int .i64 (stbS w c))), (7, .d (.bool (nvr w c.rd t))), (8, .d (.int .i64 t))], [rW w, rC c]⟩) (fun t => t ≤ w.rs.length) (fun t => w.rs.length - t) 0 (weak_any (by simp only [vx, vz, Nat.reduceAdd, Nat.reduceSub, Nat.reduceMul, Nat.reduceLeDiff, Nat.reduceLT, Nat.reduceEqDiff, Nat.reduceBEq, Int.reduceToNat, Int.reduceNeg, Int.reduceEq, Int.reduceNe, Int.reduceLE, Int.reduceLT, reduceCtorEq, ↓reduceIte]; try trivial)) (by omega) (fun t ht => ?_)
      simp only [vx, vz, Nat.reduceAdd, Nat.reduceSub, Nat.reduceMul, Nat.reduceLeDiff, Nat.reduceLT, Nat.reduceEqDiff, Nat.reduceBEq, Int.reduceToNat, Int.reduceNeg, Int.reduceEq, Int.reduceNe, Int.reduceLE, Int.reduceLT, reduceCtorEq, ↓reduceIte]
      refine cond_split (fun hc => ?_) (fun hc => ?_)
      · simp only [decide_eq_true_eq] at hc
        have hna := nvr_at w c.rd t
        simp only [vx, vz, Nat.reduceAdd, Nat.reduceSub, Nat.reduceMul, Nat.reduceLeDiff, Nat.reduceLT, Nat.reduceEqDiff, Nat.reduceBEq, Int.reduceToNat, Int.reduceNeg, Int.reduceEq, Int.reduceNe, Int.reduceLE, Int.reduceLT, reduceCtorEq, ↓reduceIte]
        cases hn : nvr w c.rd t with
        | true =>
          rw [hn, Bool.true_and] at hna
          simp only [vx, vz, Nat.reduceAdd, Nat.reduceSub, Nat.reduceMul, Nat.reduceLeDiff, Nat.reduceLT, Nat.reduceEqDiff, Nat.reduceBEq, Int.reduceToNat, Int.reduceNeg, Int.reduceEq, Int.reduceNe, Int.reduceLE, Int.reduceLT, reduceCtorEq, ↓reduceIte]
          refine call_p rfl (t23 w c.rd t okw) ?_
          simp only [vx, vz, Nat.reduceAdd, Nat.reduceSub, Nat.reduceMul, Nat.reduceLeDiff, Nat.reduceLT, Nat.reduceEqDiff, Nat.reduceBEq, Int.reduceToNat, Int.reduceNeg, Int.reduceEq, Int.reduceNe, Int.reduceLE, Int.reduceLT, reduceCtorEq, ↓reduceIte]
          refine ls_n (t + 1) (by omega) (weak_any ?_) (by omega)
          simp only [vx, vz, Nat.reduceAdd, Nat.reduceSub, Nat.reduceMul, Nat.reduceLeDiff, Nat.reduceLT, Nat.reduceEqDiff, Nat.reduceBEq, Int.reduceToNat, Int.reduceNeg, Int.reduceEq, Int.reduceNe, Int.reduceLE, Int.reduceLT, reduceCtorEq, ↓reduceIte, hna, decide_not]
          rw [wr_i64 (by omega) (by omega)]
          first | trivial | exact ⟨rfl, rfl⟩
        | false =>
          rw [hn, Bool.false_and] at hna
          simp only [vx, vz, Nat.reduceAdd, Nat.reduceSub, Nat.reduceMul, Nat.reduceLeDiff, Nat.reduceLT, Nat.reduceEqDiff, Nat.reduceBEq, Int.reduceToNat, Int.reduceNeg, Int.reduceEq, Int.reduceNe, Int.reduceLE, Int.reduceLT, reduceCtorEq, ↓reduceIte]
          refine ls_n (t + 1) (by omega) (weak_any ?_) (by omega)
          simp only [vx, vz, Nat.reduceAdd, Nat.reduceSub, Nat.reduceMul, Nat.reduceLeDiff, Nat.reduceLT, Nat.reduceEqDiff, Nat.reduceBEq, Int.reduceToNat, Int.reduceNeg, Int.reduceEq, Int.reduceNe, Int.reduceLE, Int.reduceLT, reduceCtorEq, ↓reduceIte, hna]
          rw [wr_i64 (by omega) (by omega)]
          first | trivial | exact ⟨rfl, rfl⟩
      · simp only [decide_eq_false_iff_not] at hc
        obtain rfl : t = w.rs.length := by omega
        have hcs := stb_cases w c (w.rs.length - 1) 0
        rcases hcs with hcs | ⟨u, _, h2, h3, h4, h5⟩
        · have e : stbS w c = -1 := hcs
          simp only [vx, vz, Nat.reduceAdd, Nat.reduceSub, Nat.reduceMul, Nat.reduceLeDiff, Nat.reduceLT, Nat.reduceEqDiff, Nat.reduceBEq, Int.reduceToNat, Int.reduceNeg, Int.reduceEq, Int.reduceNe, Int.reduceLE, Int.reduceLT, reduceCtorEq, ↓reduceIte, e]
          refine call_p rfl (t10) ?_
          simp only [vx, vz, Nat.reduceAdd, Nat.reduceSub, Nat.reduceMul, Nat.reduceLeDiff, Nat.reduceLT, Nat.reduceEqDiff, Nat.reduceBEq, Int.reduceToNat, Int.reduceNeg, Int.reduceEq, Int.reduceNe, Int.reduceLE, Int.reduceLT, reduceCtorEq, ↓reduceIte]
        · have e : stbS w c = ((u + 1 : Nat) : Int) := h3
          have hbk := h4
          unfold brkS at h4
          simp only [Bool.and_eq_true, Bool.not_eq_true', decide_eq_false_iff_not, decide_eq_true_eq] at h4
          have hnv := nvr_no (w := w) (s := c.rd) (t := w.rs.length) (u := u) (by omega) h4.1.2
          have w1 : IntKind.i64.wrap (((u + 1 : Nat) : Int) - 1) = u := by rw [wr_i64 (by omega) (by omega)]; omega
          have w2 : IntKind.i64.wrap (((u + 1 : Nat) : Int) + 1) = (u + 2 : Nat) := by rw [wr_i64 (by omega) (by omega)]; omega
          have c2 := t24 w 0 (u + 1) okw hv (by omega) (by omega)
          have c3 := t24 w u (u + 2) okw hv (by omega) (by omega)
          have c4 := t19 (cutW w 0 (u + 1)) c (cut_ok okw) ca
          have c5 := t19 (cutW w u (u + 2)) c (cut_ok okw) ca
          unfold stbV at c4 c5
          rw [cut_err he, if_pos rfl] at c4 c5
          have s1 : stbS (cutW w 0 (u + 1)) c = -1 := by
            rw [stbS, cut_rl w (by omega)]
            refine stb_no _ _ fun v h6 h7 => ?_
            rw [cut_brk hv (by omega) (by omega), Nat.zero_add]
            exact h5 v (by omega) (by omega)
          have s2 : stbS (cutW w u (u + 2)) c = 1 := by
            rw [stbS, cut_rl w (by omega), show u + 2 - u - 1 = 1 by omega, stbG, cut_brk hv (by omega) (by omega), Nat.add_zero, if_pos hbk]
            rfl
          rw [s1] at c4
          rw [s2] at c5
          simp only [vx, vz, Nat.reduceAdd, Nat.reduceSub, Nat.reduceMul, Nat.reduceLeDiff, Nat.reduceLT, Nat.reduceEqDiff, Nat.reduceBEq, Int.reduceToNat, Int.reduceNeg, Int.reduceEq, Int.reduceNe, Int.reduceLE, Int.reduceLT, reduceCtorEq, ↓reduceIte, e, hnv, df (show ¬ ((u + 1 : Nat) : Int) < 0 by omega), df (show ¬ ((u + 1 : Nat) : Int) < 1 by omega), df (show ¬ (w.rs.length : Int) ≤ (u + 1 : Nat) by omega), w1, w2]
          refine call_p rfl (t23 w c.va u okw) ?_
          simp only [vx, vz, Nat.reduceAdd, Nat.reduceSub, Nat.reduceMul, Nat.reduceLeDiff, Nat.reduceLT, Nat.reduceEqDiff, Nat.reduceBEq, Int.reduceToNat, Int.reduceNeg, Int.reduceEq, Int.reduceNe, Int.reduceLE, Int.reduceLT, reduceCtorEq, ↓reduceIte]
          simp only [vx, vz, Nat.reduceAdd, Nat.reduceSub, Nat.reduceMul, Nat.reduceLeDiff, Nat.reduceLT, Nat.reduceEqDiff, Nat.reduceBEq, Int.reduceToNat, Int.reduceNeg, Int.reduceEq, Int.reduceNe, Int.reduceLE, Int.reduceLT, reduceCtorEq, ↓reduceIte, df h4.1.1, w1]
          refine call_p rfl (t23 w c.rd u okw) ?_
          simp only [vx, vz, Nat.reduceAdd, Nat.reduceSub, Nat.reduceMul, Nat.reduceLeDiff, Nat.reduceLT, Nat.reduceEqDiff, Nat.reduceBEq, Int.reduceToNat, Int.reduceNeg, Int.reduceEq, Int.reduceNe, Int.reduceLE, Int.reduceLT, reduceCtorEq, ↓reduceIte]
          simp only [vx, vz, Nat.reduceAdd, Nat.reduceSub, Nat.reduceMul, Nat.reduceLeDiff, Nat.reduceLT, Nat.reduceEqDiff, Nat.reduceBEq, Int.reduceToNat, Int.reduceNeg, Int.reduceEq, Int.reduceNe, Int.reduceLE, Int.reduceLT, reduceCtorEq, ↓reduceIte, decide_not, dt h4.1.2, w1, w2]
          refine call_p rfl (c2) ?_
          simp only [vx, vz, Nat.reduceAdd, Nat.reduceSub, Nat.reduceMul, Nat.reduceLeDiff, Nat.reduceLT, Nat.reduceEqDiff, Nat.reduceBEq, Int.reduceToNat, Int.reduceNeg, Int.reduceEq, Int.reduceNe, Int.reduceLE, Int.reduceLT, reduceCtorEq, ↓reduceIte]
          refine call_p rfl (c4) ?_
          simp only [vx, vz, Nat.reduceAdd, Nat.reduceSub, Nat.reduceMul, Nat.reduceLeDiff, Nat.reduceLT, Nat.reduceEqDiff, Nat.reduceBEq, Int.reduceToNat, Int.reduceNeg, Int.reduceEq, Int.reduceNe, Int.reduceLE, Int.reduceLT, reduceCtorEq, ↓reduceIte]
          simp only [vx, vz, Nat.reduceAdd, Nat.reduceSub, Nat.reduceMul, Nat.reduceLeDiff, Nat.reduceLT, Nat.reduceEqDiff, Nat.reduceBEq, Int.reduceToNat, Int.reduceNeg, Int.reduceEq, Int.reduceNe, Int.reduceLE, Int.reduceLT, reduceCtorEq, ↓reduceIte, w1, w2]
          refine call_p rfl (c3) ?_
          simp only [vx, vz, Nat.reduceAdd, Nat.reduceSub, Nat.reduceMul, Nat.reduceLeDiff, Nat.reduceLT, Nat.reduceEqDiff, Nat.reduceBEq, Int.reduceToNat, Int.reduceNeg, Int.reduceEq, Int.reduceNe, Int.reduceLE, Int.reduceLT, reduceCtorEq, ↓reduceIte]
          refine call_p rfl (c5) ?_
          simp only [vx, vz, Nat.reduceAdd, Nat.reduceSub, Nat.reduceMul, Nat.reduceLeDiff, Nat.reduceLT, Nat.reduceEqDiff, Nat.reduceBEq, Int.reduceToNat, Int.reduceNeg, Int.reduceEq, Int.reduceNe, Int.reduceLE, Int.reduceLT, reduceCtorEq, ↓reduceIte]
          refine call_p rfl (t10) ?_
          simp only [vx, vz, Nat.reduceAdd, Nat.reduceSub, Nat.reduceMul, Nat.reduceLeDiff, Nat.reduceLT, Nat.reduceEqDiff, Nat.reduceBEq, Int.reduceToNat, Int.reduceNeg, Int.reduceEq, Int.reduceNe, Int.reduceLE, Int.reduceLT, reduceCtorEq, ↓reduceIte]
    · rw [if_neg he]
      simp only [vx, vz, Nat.reduceAdd, Nat.reduceSub, Nat.reduceMul, Nat.reduceLeDiff, Nat.reduceLT, Nat.reduceEqDiff, Nat.reduceBEq, Int.reduceToNat, Int.reduceNeg, Int.reduceEq, Int.reduceNe, Int.reduceLE, Int.reduceLT, reduceCtorEq, ↓reduceIte, dt he]
      refine call_p rfl (t10) ?_
      simp only [vx, vz, Nat.reduceAdd, Nat.reduceSub, Nat.reduceMul, Nat.reduceLeDiff, Nat.reduceLT, Nat.reduceEqDiff, Nat.reduceBEq, Int.reduceToNat, Int.reduceNeg, Int.reduceEq, Int.reduceNe, Int.reduceLE, Int.reduceLT, reduceCtorEq, ↓reduceIte]
end Go.Proofs.Mn

namespace Go.Proofs.Mn
open Go.Vx
theorem rchN : reachBytes = 140737488351232 := rfl
theorem mxL : maxLen = 9223372036854775807 := rfl
theorem byt9 : Tryd.prog.bytesOf 9 = 16 := by kernel_rfl
theorem byt3 : Tryd.prog.bytesOf 3 = 8 := by kernel_rfl
theorem byt34 : Tryd.prog.bytesOf 34 = 24 := by kernel_rfl
theorem cel9 : Tryd.prog.cellsOf 9 = 1 := by kernel_rfl
theorem cel3 : Tryd.prog.cellsOf 3 = 1 := by kernel_rfl
theorem cel34 : Tryd.prog.cellsOf 34 = 1 := by kernel_rfl
theorem tr_names {n : Nat} {ys : List D} (h : TyR Tryd.prog n 22 ys) : ∃ l : List B, ys = [.sl 1 (strs l)] ∧ l.length ≤ maxLen ∧ ∀ s ∈ l, s.length ≤ maxLen := by
  have hr := rchN; have hx := mxL
  obtain ⟨l, rfl, h1, h2⟩ := tr_sl (f := sD) (ok := fun s => s.length ≤ reachBytes) Tryd.underlying22 (fun n ys hy => by obtain ⟨s, rfl, h⟩ := tr_str Tryd.underlying9 hy; exact ⟨s, rfl, h⟩) h
  rw [byt9] at h1
  exact ⟨l, by rw [cel9], by omega, fun s hs => by have := h2 s hs; omega⟩
theorem tr_vals {n : Nat} {ys : List D} (h : TyR Tryd.prog n 34 ys) : ∃ l : List Int, ys = rwD l ∧ l.length ≤ maxLen := by
  have hr := rchN; have hx := mxL
  obtain ⟨l, rfl, h1, h2⟩ := tr_sl (f := iD) (ok := fun _ => True) Tryd.underlying34 (fun n ys hy => by obtain ⟨s, rfl, h⟩ := tr_int Tryd.underlying3 hy; exact ⟨s, rfl, trivial⟩) h
  rw [byt3] at h1
  exact ⟨l, by rw [cel3]; rfl, by omega⟩
theorem tr_wv {n : Nat} {ys : List D} (h : TyR Tryd.prog n 25 ys) : ∃ w : Wv, ys = w.d ∧ okW w := by
  have hr := rchN; have hx := mxL
  obtain ⟨m, a, b, rfl, h1, h2⟩ := tr_struct2 Tryd.underlying25 h
  obtain ⟨l, rfl, k1, k2⟩ := tr_names h1
  obtain ⟨r, rfl, k3, k4⟩ := tr_sl (f := rwD) (ok := fun r => r.length ≤ maxLen) Tryd.underlying23 (fun n ys hy => tr_vals hy) h2
  rw [byt34] at k3
  exact ⟨⟨l, r⟩, by rw [cel34]; rfl, k1, k2, by simp only; omega, k4⟩
theorem tr_chn {n : Nat} {ys : List D} (h : TyR Tryd.prog n 27 ys) : ∃ c : Chn, ys = c.d ∧ okN c := by
  have hr := rchN; have hx := mxL
  obtain ⟨m, a, b, c, rfl, h1, h2, h3⟩ := tr_struct3 Tryd.underlying27 h
  obtain ⟨x, rfl, k1⟩ := tr_str Tryd.underlying9 h1
  obtain ⟨y, rfl, k2⟩ := tr_str Tryd.underlying9 h2
  obtain ⟨l, rfl, _, k3⟩ := tr_names h3
  refine ⟨⟨x, y, l⟩, rfl, fun s hs => ?_⟩
  simp only [sgn, List.mem_cons] at hs
  rcases hs with rfl | rfl | hs
  · omega
  · omega
  · exact k3 s hs
end Go.Proofs.Mn
