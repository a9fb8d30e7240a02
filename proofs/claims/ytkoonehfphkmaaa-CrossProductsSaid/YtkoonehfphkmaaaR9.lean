import Derived.Test.YtkoonehfphkmaaaP1
set_option linter.unusedSimpArgs false
set_option linter.unusedVariables false
namespace Go.Proofs.Cr
open Go.Vx
theorem kpL_set {m : Nat} {rows : Go.Vx.Rows} {fr : List V} {i : Nat} {v v' : V} (h1 : fr[i]? = some v) (h2 : Snap (hiRows m rows) v v') (h3 : (fr.eraseIdx i).all (hB m) = true) : kpL m rows fr (fr.set i v') := by
  induction fr generalizing i with
  | nil => simp at h1
  | cons x l ih =>
    cases i with
    | zero => simp at h1; subst h1; exact ⟨.snap _ _ h2, kpL_refl (by simpa using h3)⟩
    | succ i =>
      simp only [List.eraseIdx_cons_succ, List.all_cons, Bool.and_eq_true] at h3
      exact ⟨.same _ h3.1, ih (by simpa using h1) h3.2⟩
theorem getM_nat {α β : Type} {l : List α} {f : α → β} {i : Nat} {x : α} {g : β → Prop} (h : l[i]? = some x) (hk : g (f x)) : getA (l.map f) i g :=
  getA_iff.2 ⟨f x, by simp [h], hk⟩
theorem sn_ll {rows : Go.Vx.Rows} {h n : Nat} {L : List (List Int)} (hrow : Go.Vx.rowAt rows h = .live 1 ((L.map lD).map (·.map .d))) (hn : n = L.length) : Snap rows (.osl 1 h n 0 n) (llV L) :=
  sn_osl (es := L.map lD) hrow (by simp [hn]) (by omega) (fun e he => by obtain ⟨t, _, rfl⟩ := List.mem_map.1 he; rfl) (by rw [List.drop_zero, List.take_of_length_le (by simp [hn])])
theorem hits_no {m : Md} {i : Int} {hit : List (List Int)} (h : ¬ (usb m i = true ∧ hit.length = m.1.length)) : hitsS m i hit = [] := by
  rw [hitsS]; split
  · rfl
  · rw [if_neg h]
theorem hits_at {m : Md} {i : Int} {hit : List (List Int)} {c : Cs} (h : crOf m i = some c) (hu : usb m i = true) (hl : hit.length = m.1.length) : hitsS m i hit = ((allP m hit c.2.1).filter (keepS m i)).map (fun l => (((ixo m i l).getD 0 : Nat) : Int)) := by
  rw [hitsS, h]; simp only [if_pos (And.intro hu hl)]
def midS (m : Md) (hit : List (List Int)) (p : Int) (a : List (List Int)) (t : Nat) : List (List Int) := extS (nb m p) (hitAt hit p) (a.take t)
def innS (m : Md) (hit : List (List Int)) (p : Int) (a : List (List Int)) (t : Nat) (l : List Int) (b : Nat) : List (List Int) := midS m hit p a t ++ (bsS (hitAt hit p) b).map fun b => l ++ [b]
theorem inn_zero {m : Md} {hit : List (List Int)} {p : Int} {a : List (List Int)} {t : Nat} {l : List Int} : innS m hit p a t l 0 = midS m hit p a t := by simp [innS, bsS]
theorem inn_end {m : Md} {hit : List (List Int)} {p : Int} {a : List (List Int)} {t : Nat} {l : List Int} (h : a[t]? = some l) : innS m hit p a t l (nb m p) = midS m hit p a (t + 1) := by rw [innS, midS, midS, extS_take h]
theorem inn_yes {m : Md} {hit : List (List Int)} {p : Int} {a : List (List Int)} {t : Nat} {l : List Int} {b : Nat} (h : hasS (hitAt hit p) b = true) : innS m hit p a t l (b + 1) = innS m hit p a t l b ++ [l ++ [(b : Int)]] := by
  rw [innS, innS, bsS_succ, if_pos h, List.map_append, List.append_assoc]; rfl
theorem inn_no {m : Md} {hit : List (List Int)} {p : Int} {a : List (List Int)} {t : Nat} {l : List Int} {b : Nat} (h : hasS (hitAt hit p) b = false) : innS m hit p a t l (b + 1) = innS m hit p a t l b := by
  rw [innS, innS, bsS_succ, if_neg (by rw [h]; decide)]
theorem inn_len {m : Md} {hit : List (List Int)} {p : Int} {a : List (List Int)} {t : Nat} {l : List Int} {b : Nat} (hb : nb m p ≤ 40) (hbb : b ≤ 40) (ht : t < a.length) : (innS m hit p a t l b).length ≤ a.length * 40 := by
  have h1 := extS_len (n := nb m p) (H := hitAt hit p) (a := a.take t)
  have h2 := bsS_len (H := hitAt hit p) (n := b)
  have h3 : (a.take t).length = t := by simp; omega
  rw [h3] at h1
  have h4 : t * nb m p ≤ t * 40 := Nat.mul_le_mul_left _ hb
  have h5 : (innS m hit p a t l b).length = (midS m hit p a t).length + (bsS (hitAt hit p) b).length := by simp [innS]
  rw [h5, midS]
  omega
def outS (m : Md) (i : Int) (a : List (List Int)) : List Int := (a.filter (keepS m i)).map (fun l => (((ixo m i l).getD 0 : Nat) : Int))
theorem out_snoc {m : Md} {i : Int} {a : List (List Int)} {l : List Int} : outS m i (a ++ [l]) = if keepS m i l then outS m i a ++ [(((ixo m i l).getD 0 : Nat) : Int)] else outS m i a := by
  rw [outS, List.filter_append, List.map_append]
  cases h : keepS m i l <;> simp [outS, h]
theorem t21 (m : Md) (i : Int) (hit : List (List Int)) (h : Sm m i) (okh : okH hit) : CallP Try.prog 21 [mdV m, .d (.int .i64 i), llV hit] (isV (hitsS m i hit)) := by
  have hm := hm
  have ok := h.ok
  have hml := ok.1
  have hhl := okh.1
  refine go21 ac21 rfl ?_
  simp only [vx, vz, Nat.reduceAdd, Nat.reduceSub, Nat.reduceMul, Nat.reduceLeDiff, Nat.reduceLT, Nat.reduceEqDiff, Nat.reduceBEq, Int.reduceToNat, Int.reduceNeg, Int.reduceEq, Int.reduceNe, Int.reduceLE, Int.reduceLT, reduceCtorEq, ↓reduceIte, ac21]
  refine call_p rfl (t28 m i ok) ?_
  simp only [vx, vz, Nat.reduceAdd, Nat.reduceSub, Nat.reduceMul, Nat.reduceLeDiff, Nat.reduceLT, Nat.reduceEqDiff, Nat.reduceBEq, Int.reduceToNat, Int.reduceNeg, Int.reduceEq, Int.reduceNe, Int.reduceLE, Int.reduceLT, reduceCtorEq, ↓reduceIte]
  rcases usb_cases m i with ⟨h1, h2⟩ | ⟨i, c, rfl, hc, hu, h1, h2, h3⟩
  · rw [hits_no (by simp [h1])]
    simp only [vx, vz, Nat.reduceAdd, Nat.reduceSub, Nat.reduceMul, Nat.reduceLeDiff, Nat.reduceLT, Nat.reduceEqDiff, Nat.reduceBEq, Int.reduceToNat, Int.reduceNeg, Int.reduceEq, Int.reduceNe, Int.reduceLE, Int.reduceLT, reduceCtorEq, ↓reduceIte, h1]
    exact .nils 1
  · simp only [vx, vz, Nat.reduceAdd, Nat.reduceSub, Nat.reduceMul, Nat.reduceLeDiff, Nat.reduceLT, Nat.reduceEqDiff, Nat.reduceBEq, Int.reduceToNat, Int.reduceNeg, Int.reduceEq, Int.reduceNe, Int.reduceLE, Int.reduceLT, reduceCtorEq, ↓reduceIte, h1]
    refine cond_split (fun hc2 => ?_) (fun hc2 => ?_)
    · have hc2 : ¬ hit.length = m.1.length := by simp at hc2; omega
      rw [hits_no (by simp [hc2])]
      simp only [vx, vz, Nat.reduceAdd, Nat.reduceSub, Nat.reduceMul, Nat.reduceLeDiff, Nat.reduceLT, Nat.reduceEqDiff, Nat.reduceBEq, Int.reduceToNat, Int.reduceNeg, Int.reduceEq, Int.reduceNe, Int.reduceLE, Int.reduceLT, reduceCtorEq, ↓reduceIte]
      exact .nils 1
    · have hc2 : hit.length = m.1.length := by
        simp at hc2; omega
      have h4 := h.pts c h2
      have hil := (List.getElem?_eq_some_iff.1 hc).1
      have hil2 := ok.2.1
      have hkl : (kI m c.2.1).length = c.2.1.length := by simp [kI]
      rw [hits_at h2 h1 hc2]
      simp only [vx, vz, Nat.reduceAdd, Nat.reduceSub, Nat.reduceMul, Nat.reduceLeDiff, Nat.reduceLT, Nat.reduceEqDiff, Nat.reduceBEq, Int.reduceToNat, Int.reduceNeg, Int.reduceEq, Int.reduceNe, Int.reduceLE, Int.reduceLT, reduceCtorEq, ↓reduceIte]
      refine ⟨by omega, by omega, getM_at hc ?_⟩
      simp only [vx, vz, Nat.reduceAdd, Nat.reduceSub, Nat.reduceMul, Nat.reduceLeDiff, Nat.reduceLT, Nat.reduceEqDiff, Nat.reduceBEq, Int.reduceToNat, Int.reduceNeg, Int.reduceEq, Int.reduceNe, Int.reduceLE, Int.reduceLT, reduceCtorEq, ↓reduceIte]
      simp only [vx, vz, Nat.reduceAdd, Nat.reduceSub, Nat.reduceMul, Nat.reduceLeDiff, Nat.reduceLT, Nat.reduceEqDiff, Nat.reduceBEq, Int.reduceToNat, Int.reduceNeg, Int.reduceEq, Int.reduceNe, Int.reduceLE, Int.reduceLT, reduceCtorEq, ↓reduceIte, crD]
      refine loop_st (fun j : Nat => ⟨mkF 113 [(1, .d (.int .i64 i)), (2, llV hit), (3, .optr 2 0 1 0 0), (7, llV (allP m hit (c.2.1.take j))), (38, isV c.2.1), (39, .d (.int .i64 c.2.1.length)), (40, .d (.int .i64 j))], [.live 2 [[.d (.sl 6 (m.1.map ptD)), .d (.sl 3 (m.2.map crD))]]]⟩) (fun j => j ≤ c.2.1.length) (fun j => c.2.1.length - j) 0 ?_ (by omega) (fun j hj => ?_)
      · refine Weak.trans (B := ⟨mkF 113 [(1, .d (.int .i64 i)), (2, llV hit), (3, .optr 2 0 1 0 0), (7, .osl 1 1 1 0 1), (38, isV c.2.1), (39, .d (.int .i64 c.2.1.length)), (40, .d (.int .i64 0))], [.live 2 [[.d (.sl 6 (m.1.map ptD)), .d (.sl 3 (m.2.map crD))]], .live 1 [[.d .nils]]]⟩) (weak_any (by simp only [vx, vz, Nat.reduceAdd, Nat.reduceSub, Nat.reduceMul, Nat.reduceLeDiff, Nat.reduceLT, Nat.reduceEqDiff, Nat.reduceBEq, Int.reduceToNat, Int.reduceNeg, Int.reduceEq, Int.reduceNe, Int.reduceLE, Int.reduceLT, reduceCtorEq, ↓reduceIte]; try trivial)) ?_
        exact weak_frz2 1 (by omega) ⟨.same _ (by simp [rowB, hB]), trivial⟩ (kpL_set (i := 7) (v := .osl 1 1 1 0 1) rfl (sn_oslZ rfl rfl (by decide) ⟨rfl, ⟨.nils 1, trivial⟩, trivial⟩) rfl)
      · simp only [vx, vz, Nat.reduceAdd, Nat.reduceSub, Nat.reduceMul, Nat.reduceLeDiff, Nat.reduceLT, Nat.reduceEqDiff, Nat.reduceBEq, Int.reduceToNat, Int.reduceNeg, Int.reduceEq, Int.reduceNe, Int.reduceLE, Int.reduceLT, reduceCtorEq, ↓reduceIte]
        refine cond_split (fun hc3 => ?_) (fun hc3 => ?_)
        · simp only [decide_eq_true_eq] at hc3
          obtain ⟨p, hp⟩ := get_ex (l := c.2.1) (i := j) (by omega)
          obtain ⟨hp1, hp2⟩ := any_no hu (List.mem_of_getElem? hp)
          obtain ⟨p, rfl⟩ : ∃ q : Nat, p = q := ⟨p.toNat, by omega⟩
          obtain ⟨H, hH⟩ := get_ex (l := hit) (i := p) (by omega)
          have hHl := okh.2 H (List.mem_of_getElem? hH)
          have hnb := nb_le h.bins (p : Int)
          obtain ⟨hal, hall⟩ := allP_len h.bins (hit := hit) (pts := c.2.1) j hj
          have hsn := allP_snoc (m := m) (hit := hit) hp
          generalize allP m hit (c.2.1.take j) = a at hal hall hsn ⊢
          have hp4 := pow_le4 (j := j) (by omega)
          simp only [vx, vz, Nat.reduceAdd, Nat.reduceSub, Nat.reduceMul, Nat.reduceLeDiff, Nat.reduceLT, Nat.reduceEqDiff, Nat.reduceBEq, Int.reduceToNat, Int.reduceNeg, Int.reduceEq, Int.reduceNe, Int.reduceLE, Int.reduceLT, reduceCtorEq, ↓reduceIte]
          refine ⟨by omega, by omega, getM_at hp ?_⟩
          simp only [vx, vz, Nat.reduceAdd, Nat.reduceSub, Nat.reduceMul, Nat.reduceLeDiff, Nat.reduceLT, Nat.reduceEqDiff, Nat.reduceBEq, Int.reduceToNat, Int.reduceNeg, Int.reduceEq, Int.reduceNe, Int.reduceLE, Int.reduceLT, reduceCtorEq, ↓reduceIte]
          simp only [vx, vz, Nat.reduceAdd, Nat.reduceSub, Nat.reduceMul, Nat.reduceLeDiff, Nat.reduceLT, Nat.reduceEqDiff, Nat.reduceBEq, Int.reduceToNat, Int.reduceNeg, Int.reduceEq, Int.reduceNe, Int.reduceLE, Int.reduceLT, reduceCtorEq, ↓reduceIte, iD]
          refine loop_st (fun t : Nat => ⟨mkF 113 [(1, .d (.int .i64 i)), (2, llV hit), (3, .optr 2 0 1 0 0), (8, .d (.int .i64 j)), (9, .d (.int .i64 p)), (10, .osl 1 1 (midS m hit p a t).length 0 (midS m hit p a t).length), (38, isV c.2.1), (39, .d (.int .i64 c.2.1.length)), (40, .d (.int .i64 j)), (45, llV a), (46, .d (.int .i64 a.length)), (47, .d (.int .i64 t))], [.live 2 [[.d (.sl 6 (m.1.map ptD)), .d (.sl 3 (m.2.map crD))]], .live 1 (((midS m hit p a t).map lD).map (·.map .d))]⟩) (fun t => t ≤ a.length) (fun t => a.length - t) 0 (Weak.trans (weak_nils 10 1 rfl) (weak_any (by simp only [vx, vz, Nat.reduceAdd, Nat.reduceSub, Nat.reduceMul, Nat.reduceLeDiff, Nat.reduceLT, Nat.reduceEqDiff, Nat.reduceBEq, Int.reduceToNat, Int.reduceNeg, Int.reduceEq, Int.reduceNe, Int.reduceLE, Int.reduceLT, reduceCtorEq, ↓reduceIte]; try trivial))) (by omega) (fun t ht => ?_)
          simp only [vx, vz, Nat.reduceAdd, Nat.reduceSub, Nat.reduceMul, Nat.reduceLeDiff, Nat.reduceLT, Nat.reduceEqDiff, Nat.reduceBEq, Int.reduceToNat, Int.reduceNeg, Int.reduceEq, Int.reduceNe, Int.reduceLE, Int.reduceLT, reduceCtorEq, ↓reduceIte]
          refine cond_split (fun hc4 => ?_) (fun hc4 => ?_)
          · simp only [decide_eq_true_eq] at hc4
            obtain ⟨l, hl⟩ := get_ex (l := a) (i := t) (by omega)
            have hll := hall l (List.mem_of_getElem? hl)
            simp only [vx, vz, Nat.reduceAdd, Nat.reduceSub, Nat.reduceMul, Nat.reduceLeDiff, Nat.reduceLT, Nat.reduceEqDiff, Nat.reduceBEq, Int.reduceToNat, Int.reduceNeg, Int.reduceEq, Int.reduceNe, Int.reduceLE, Int.reduceLT, reduceCtorEq, ↓reduceIte]
            refine ⟨by omega, by omega, getM_at hl ?_⟩
            simp only [vx, vz, Nat.reduceAdd, Nat.reduceSub, Nat.reduceMul, Nat.reduceLeDiff, Nat.reduceLT, Nat.reduceEqDiff, Nat.reduceBEq, Int.reduceToNat, Int.reduceNeg, Int.reduceEq, Int.reduceNe, Int.reduceLE, Int.reduceLT, reduceCtorEq, ↓reduceIte]
            simp only [vx, vz, Nat.reduceAdd, Nat.reduceSub, Nat.reduceMul, Nat.reduceLeDiff, Nat.reduceLT, Nat.reduceEqDiff, Nat.reduceBEq, Int.reduceToNat, Int.reduceNeg, Int.reduceEq, Int.reduceNe, Int.reduceLE, Int.reduceLT, reduceCtorEq, ↓reduceIte, lD]
            refine call_p rfl (t26 m i c hc hu ok (by omega)) ?_
            simp only [vx, vz, Nat.reduceAdd, Nat.reduceSub, Nat.reduceMul, Nat.reduceLeDiff, Nat.reduceLT, Nat.reduceEqDiff, Nat.reduceBEq, Int.reduceToNat, Int.reduceNeg, Int.reduceEq, Int.reduceNe, Int.reduceLE, Int.reduceLT, reduceCtorEq, ↓reduceIte]
            simp only [vx, vz, Nat.reduceAdd, Nat.reduceSub, Nat.reduceMul, Nat.reduceLeDiff, Nat.reduceLT, Nat.reduceEqDiff, Nat.reduceBEq, Int.reduceToNat, Int.reduceNeg, Int.reduceEq, Int.reduceNe, Int.reduceLE, Int.reduceLT, reduceCtorEq, ↓reduceIte, hkl]
            refine ⟨by omega, by omega, getM_at (kI_at (m := m) hp) ?_⟩
            simp only [vx, vz, Nat.reduceAdd, Nat.reduceSub, Nat.reduceMul, Nat.reduceLeDiff, Nat.reduceLT, Nat.reduceEqDiff, Nat.reduceBEq, Int.reduceToNat, Int.reduceNeg, Int.reduceEq, Int.reduceNe, Int.reduceLE, Int.reduceLT, reduceCtorEq, ↓reduceIte]
            simp only [vx, vz, Nat.reduceAdd, Nat.reduceSub, Nat.reduceMul, Nat.reduceLeDiff, Nat.reduceLT, Nat.reduceEqDiff, Nat.reduceBEq, Int.reduceToNat, Int.reduceNeg, Int.reduceEq, Int.reduceNe, Int.reduceLE, Int.reduceLT, reduceCtorEq, ↓reduceIte, iD]
            refine loop_st (fun b : Nat => ⟨mkF 113 [(1, .d (.int .i64 i)), (2, llV hit), (3, .optr 2 0 1 0 0), (8, .d (.int .i64 j)), (9, .d (.int .i64 p)), (10, .osl 1 1 (innS m hit p a t l b).length 0 (innS m hit p a t l b).length), (12, isV l), (38, isV c.2.1), (39, .d (.int .i64 c.2.1.length)), (40, .d (.int .i64 j)), (45, llV a), (46, .d (.int .i64 a.length)), (47, .d (.int .i64 t)), (56, .d (.int .i64 (nb m p))), (57, .d (.int .i64 b))], [.live 2 [[.d (.sl 6 (m.1.map ptD)), .d (.sl 3 (m.2.map crD))]], .live 1 (((innS m hit p a t l b).map lD).map (·.map .d))]⟩) (fun b => b ≤ nb m p) (fun b => nb m p - b) 0 (by
              simp only [inn_zero]
              exact weak_any (by simp only [vx, vz, Nat.reduceAdd, Nat.reduceSub, Nat.reduceMul, Nat.reduceLeDiff, Nat.reduceLT, Nat.reduceEqDiff, Nat.reduceBEq, Int.reduceToNat, Int.reduceNeg, Int.reduceEq, Int.reduceNe, Int.reduceLE, Int.reduceLT, reduceCtorEq, ↓reduceIte]; try trivial)) (by omega) (fun b hb => ?_)
            simp only [vx, vz, Nat.reduceAdd, Nat.reduceSub, Nat.reduceMul, Nat.reduceLeDiff, Nat.reduceLT, Nat.reduceEqDiff, Nat.reduceBEq, Int.reduceToNat, Int.reduceNeg, Int.reduceEq, Int.reduceNe, Int.reduceLE, Int.reduceLT, reduceCtorEq, ↓reduceIte]
            refine cond_split (fun hc5 => ?_) (fun hc5 => ?_)
            · simp only [decide_eq_true_eq] at hc5
              have hil3 := inn_len (m := m) (hit := hit) (p := p) (a := a) (t := t) (l := l) (b := b) hnb (by omega) (by omega)
              simp only [vx, vz, Nat.reduceAdd, Nat.reduceSub, Nat.reduceMul, Nat.reduceLeDiff, Nat.reduceLT, Nat.reduceEqDiff, Nat.reduceBEq, Int.reduceToNat, Int.reduceNeg, Int.reduceEq, Int.reduceNe, Int.reduceLE, Int.reduceLT, reduceCtorEq, ↓reduceIte]
              refine ⟨by omega, by omega, getM_at hH ?_⟩
              simp only [vx, vz, Nat.reduceAdd, Nat.reduceSub, Nat.reduceMul, Nat.reduceLeDiff, Nat.reduceLT, Nat.reduceEqDiff, Nat.reduceBEq, Int.reduceToNat, Int.reduceNeg, Int.reduceEq, Int.reduceNe, Int.reduceLE, Int.reduceLT, reduceCtorEq, ↓reduceIte]
              simp only [vx, vz, Nat.reduceAdd, Nat.reduceSub, Nat.reduceMul, Nat.reduceLeDiff, Nat.reduceLT, Nat.reduceEqDiff, Nat.reduceBEq, Int.reduceToNat, Int.reduceNeg, Int.reduceEq, Int.reduceNe, Int.reduceLE, Int.reduceLT, reduceCtorEq, ↓reduceIte, lD]
              refine call_p rfl (t34 H b hHl) ?_
              simp only [vx, vz, Nat.reduceAdd, Nat.reduceSub, Nat.reduceMul, Nat.reduceLeDiff, Nat.reduceLT, Nat.reduceEqDiff, Nat.reduceBEq, Int.reduceToNat, Int.reduceNeg, Int.reduceEq, Int.reduceNe, Int.reduceLE, Int.reduceLT, reduceCtorEq, ↓reduceIte]
              rw [← hitAt_at hH]
              by_cases hc6 : hasS (hitAt hit p) b = true
              · rw [hc6]
                simp only [vx, vz, Nat.reduceAdd, Nat.reduceSub, Nat.reduceMul, Nat.reduceLeDiff, Nat.reduceLT, Nat.reduceEqDiff, Nat.reduceBEq, Int.reduceToNat, Int.reduceNeg, Int.reduceEq, Int.reduceNe, Int.reduceLE, Int.reduceLT, reduceCtorEq, ↓reduceIte]
                have e1 : IntKind.i64.wrap ((l.length : Int) + 1) = ((l.length + 1 : Nat) : Int) := by rw [wr_i64 (by omega) (by omega)]; rfl
                rw [e1]
                have hcp : List.take (l.length + 1) (List.map (fun x => List.map V.d x) (List.map iD l)) ++ List.drop (min l.length (l.length + 1)) (List.replicate (l.length + 1) [V.d (.int .i64 0)]) = (l ++ [0]).map elV := by
                  rw [Nat.min_eq_left (by omega), List.drop_replicate, List.take_of_length_le (by simp), List.map_map]
                  have : l.length + 1 - l.length = 1 := by omega
                  rw [this, List.map_append]; rfl
                have hg : (l ++ [(0 : Int)])[l.length]? = some 0 := by simp
                simp only [Int.toNat_natCast]
                rw [hcp]
                refine ⟨by omega, by omega, by omega, by omega, by simp, by omega, by omega, by simp, by simp, getM_nat hg ?_⟩
                simp only [vx, vz, Nat.reduceAdd, Nat.reduceSub, Nat.reduceMul, Nat.reduceLeDiff, Nat.reduceLT, Nat.reduceEqDiff, Nat.reduceBEq, Int.reduceToNat, Int.reduceNeg, Int.reduceEq, Int.reduceNe, Int.reduceLE, Int.reduceLT, reduceCtorEq, ↓reduceIte, elV]
                refine ⟨by unfold maxBytes; omega, ?_⟩
                have hse : ((l ++ [(0 : Int)]).map elV).set l.length [V.d (.int .i64 (b : Int))] = (l ++ [(b : Int)]).map elV := by
                  rw [set_el]; congr 1; simp
                rw [hse]
                have hin := inn_yes (m := m) (p := p) (a := a) (t := t) (l := l) hc6
                refine ls_n (b + 1) (by omega) (Weak.trans (weak_any ?_) (weak_frz2 2 (by omega) ⟨.same _ (by simp [rowB, hB]), ?_, trivial⟩ (kpL_refl ?_))) (by omega)
                · simp only [vx, vz, Nat.reduceAdd, Nat.reduceSub, Nat.reduceMul, Nat.reduceLeDiff, Nat.reduceLT, Nat.reduceEqDiff, Nat.reduceBEq, Int.reduceToNat, Int.reduceNeg, Int.reduceEq, Int.reduceNe, Int.reduceLE, Int.reduceLT, reduceCtorEq, ↓reduceIte]
                  rw [wr_i64 (by omega) (by omega), hin, List.length_append]
                  exact ⟨rfl, rfl⟩
                · show RowK 2 _ _ (.live 1 (((innS m hit p a t l (b + 1)).map lD).map (·.map .d)))
                  have e3 : (innS m hit p a t l (b + 1)).map lD = (innS m hit p a t l b).map lD ++ [lD (l ++ [(b : Int)])] := by rw [hin, List.map_append]; rfl
                  rw [e3]
                  refine rowK_snoc (e := [.osl 1 2 (l.length + 1) 0 (l.length + 1)]) (x := lD (l ++ [(b : Int)])) ⟨.snap _ _ ?_, trivial⟩
                  exact sn_osl (es := (l ++ [(b : Int)]).map iD) (by simp only [Go.Vx.rowAt, List.map_map]; rfl) (by simp) (by omega) (fun e he => by obtain ⟨t, _, rfl⟩ := List.mem_map.1 he; rfl) (by rw [List.drop_zero, List.take_of_length_le (by simp)])
                · rfl
              · have hc6 : hasS (hitAt hit p) b = false := by simpa using hc6
                rw [hc6]
                simp only [vx, vz, Nat.reduceAdd, Nat.reduceSub, Nat.reduceMul, Nat.reduceLeDiff, Nat.reduceLT, Nat.reduceEqDiff, Nat.reduceBEq, Int.reduceToNat, Int.reduceNeg, Int.reduceEq, Int.reduceNe, Int.reduceLE, Int.reduceLT, reduceCtorEq, ↓reduceIte]
                refine ls_n (b + 1) (by omega) ?_ (by omega)
                simp only [inn_no hc6]
                refine weak_any ?_
                simp only [vx, vz, Nat.reduceAdd, Nat.reduceSub, Nat.reduceMul, Nat.reduceLeDiff, Nat.reduceLT, Nat.reduceEqDiff, Nat.reduceBEq, Int.reduceToNat, Int.reduceNeg, Int.reduceEq, Int.reduceNe, Int.reduceLE, Int.reduceLT, reduceCtorEq, ↓reduceIte]
                rw [wr_i64 (by omega) (by omega)]
                trivial
            · simp only [decide_eq_false_iff_not] at hc5
              obtain rfl : b = nb m p := by omega
              simp only [vx, vz, Nat.reduceAdd, Nat.reduceSub, Nat.reduceMul, Nat.reduceLeDiff, Nat.reduceLT, Nat.reduceEqDiff, Nat.reduceBEq, Int.reduceToNat, Int.reduceNeg, Int.reduceEq, Int.reduceNe, Int.reduceLE, Int.reduceLT, reduceCtorEq, ↓reduceIte]
              refine ls_n (t + 1) (by omega) ?_ (by omega)
              simp only [inn_end hl]
              refine weak_any ?_
              simp only [vx, vz, Nat.reduceAdd, Nat.reduceSub, Nat.reduceMul, Nat.reduceLeDiff, Nat.reduceLT, Nat.reduceEqDiff, Nat.reduceBEq, Int.reduceToNat, Int.reduceNeg, Int.reduceEq, Int.reduceNe, Int.reduceLE, Int.reduceLT, reduceCtorEq, ↓reduceIte]
              rw [wr_i64 (by omega) (by omega)]
              trivial
          · simp only [decide_eq_false_iff_not] at hc4
            have hme : midS m hit p a t = allP m hit (c.2.1.take (j + 1)) := by
              rw [midS, List.take_of_length_le (by omega), hsn]
            simp only [vx, vz, Nat.reduceAdd, Nat.reduceSub, Nat.reduceMul, Nat.reduceLeDiff, Nat.reduceLT, Nat.reduceEqDiff, Nat.reduceBEq, Int.reduceToNat, Int.reduceNeg, Int.reduceEq, Int.reduceNe, Int.reduceLE, Int.reduceLT, reduceCtorEq, ↓reduceIte]
            refine ls_n (j + 1) (by omega) ?_ (by omega)
            rw [hme]
            refine Weak.trans (B := ⟨mkF 113 [(1, .d (.int .i64 i)), (2, llV hit), (3, .optr 2 0 1 0 0), (7, .osl 1 1 (allP m hit (c.2.1.take (j + 1))).length 0 (allP m hit (c.2.1.take (j + 1))).length), (38, isV c.2.1), (39, .d (.int .i64 c.2.1.length)), (40, .d (.int .i64 (j + 1 : Nat)))], [.live 2 [[.d (.sl 6 (m.1.map ptD)), .d (.sl 3 (m.2.map crD))]], .live 1 (((allP m hit (c.2.1.take (j + 1))).map lD).map (·.map .d))]⟩) (weak_any ?_) ?_
            · simp only [vx, vz, Nat.reduceAdd, Nat.reduceSub, Nat.reduceMul, Nat.reduceLeDiff, Nat.reduceLT, Nat.reduceEqDiff, Nat.reduceBEq, Int.reduceToNat, Int.reduceNeg, Int.reduceEq, Int.reduceNe, Int.reduceLE, Int.reduceLT, reduceCtorEq, ↓reduceIte]
              rw [wr_i64 (by omega) (by omega)]
              trivial
            · exact weak_frz2 1 (by omega) ⟨.same _ (by simp [rowB, hB]), trivial⟩ (kpL_set (i := 7) rfl (sn_ll rfl rfl) rfl)
        · simp only [decide_eq_false_iff_not] at hc3
          obtain ⟨hal, hall⟩ := allP_len h.bins (hit := hit) (pts := c.2.1) c.2.1.length (by omega)
          rw [List.take_of_length_le (Nat.le_refl _)] at hal hall
          rw [List.take_of_length_le (by omega)]
          have hp4 := pow_le4 (j := c.2.1.length) (by omega)
          rw [show (allP m hit c.2.1).filter (keepS m i) = (allP m hit c.2.1).filter (keepS m i) from rfl]
          show wpC _ _ _ (_) _
          generalize allP m hit c.2.1 = a at hal hall ⊢
          simp only [vx, vz, Nat.reduceAdd, Nat.reduceSub, Nat.reduceMul, Nat.reduceLeDiff, Nat.reduceLT, Nat.reduceEqDiff, Nat.reduceBEq, Int.reduceToNat, Int.reduceNeg, Int.reduceEq, Int.reduceNe, Int.reduceLE, Int.reduceLT, reduceCtorEq, ↓reduceIte]
          refine loop_st (fun t : Nat => ⟨mkF 113 [(1, .d (.int .i64 i)), (3, .optr 2 0 1 0 0), (15, .osl 1 1 (outS m i (a.take t)).length 0 (outS m i (a.take t)).length), (86, llV a), (87, .d (.int .i64 a.length)), (88, .d (.int .i64 t))], [.live 2 [[.d (.sl 6 (m.1.map ptD)), .d (.sl 3 (m.2.map crD))]], .live 1 (((outS m i (a.take t)).map iD).map (·.map .d))]⟩) (fun t => t ≤ a.length) (fun t => a.length - t) 0 (Weak.trans (weak_nils 15 1 rfl) (weak_any (by simp only [vx, vz, Nat.reduceAdd, Nat.reduceSub, Nat.reduceMul, Nat.reduceLeDiff, Nat.reduceLT, Nat.reduceEqDiff, Nat.reduceBEq, Int.reduceToNat, Int.reduceNeg, Int.reduceEq, Int.reduceNe, Int.reduceLE, Int.reduceLT, reduceCtorEq, ↓reduceIte]; try trivial))) (by omega) (fun t ht => ?_)
          simp only [vx, vz, Nat.reduceAdd, Nat.reduceSub, Nat.reduceMul, Nat.reduceLeDiff, Nat.reduceLT, Nat.reduceEqDiff, Nat.reduceBEq, Int.reduceToNat, Int.reduceNeg, Int.reduceEq, Int.reduceNe, Int.reduceLE, Int.reduceLT, reduceCtorEq, ↓reduceIte]
          refine cond_split (fun hc4 => ?_) (fun hc4 => ?_)
          · simp only [decide_eq_true_eq] at hc4
            obtain ⟨l, hl⟩ := get_ex (l := a) (i := t) (by omega)
            have hll := hall l (List.mem_of_getElem? hl)
            have h16 := t16 m i l h (by have := mL4; omega)
            have hsn : outS m i (a.take (t + 1)) = if keepS m i l then outS m i (a.take t) ++ [(((ixo m i l).getD 0 : Nat) : Int)] else outS m i (a.take t) := by
              obtain ⟨h5, h6⟩ := List.getElem?_eq_some_iff.1 hl
              rw [List.take_succ_eq_append_getElem h5, h6, out_snoc]
            have hol : (outS m i (a.take t)).length ≤ t := by
              rw [outS, List.length_map]
              exact Nat.le_trans (List.length_filter_le _ _) (by simp; omega)
            simp only [vx, vz, Nat.reduceAdd, Nat.reduceSub, Nat.reduceMul, Nat.reduceLeDiff, Nat.reduceLT, Nat.reduceEqDiff, Nat.reduceBEq, Int.reduceToNat, Int.reduceNeg, Int.reduceEq, Int.reduceNe, Int.reduceLE, Int.reduceLT, reduceCtorEq, ↓reduceIte]
            refine ⟨by omega, by omega, getM_at hl ?_⟩
            simp only [vx, vz, Nat.reduceAdd, Nat.reduceSub, Nat.reduceMul, Nat.reduceLeDiff, Nat.reduceLT, Nat.reduceEqDiff, Nat.reduceBEq, Int.reduceToNat, Int.reduceNeg, Int.reduceEq, Int.reduceNe, Int.reduceLE, Int.reduceLT, reduceCtorEq, ↓reduceIte]
            simp only [vx, vz, Nat.reduceAdd, Nat.reduceSub, Nat.reduceMul, Nat.reduceLeDiff, Nat.reduceLT, Nat.reduceEqDiff, Nat.reduceBEq, Int.reduceToNat, Int.reduceNeg, Int.reduceEq, Int.reduceNe, Int.reduceLE, Int.reduceLT, reduceCtorEq, ↓reduceIte, lD]
            cases hix : ixo m i l with
            | none =>
              rw [hix, ixV] at h16
              rw [keepS, hix, if_neg (by simp)] at hsn
              refine call_p rfl (h16) ?_
              simp only [vx, vz, Nat.reduceAdd, Nat.reduceSub, Nat.reduceMul, Nat.reduceLeDiff, Nat.reduceLT, Nat.reduceEqDiff, Nat.reduceBEq, Int.reduceToNat, Int.reduceNeg, Int.reduceEq, Int.reduceNe, Int.reduceLE, Int.reduceLT, reduceCtorEq, ↓reduceIte]
              refine ls_n (t + 1) (by omega) ?_ (by omega)
              simp only [hsn]
              refine weak_any ?_
              simp only [vx, vz, Nat.reduceAdd, Nat.reduceSub, Nat.reduceMul, Nat.reduceLeDiff, Nat.reduceLT, Nat.reduceEqDiff, Nat.reduceBEq, Int.reduceToNat, Int.reduceNeg, Int.reduceEq, Int.reduceNe, Int.reduceLE, Int.reduceLT, reduceCtorEq, ↓reduceIte]
              rw [wr_i64 (by omega) (by omega)]
              trivial
            | some k =>
              rw [hix, ixV] at h16
              refine call_p rfl (h16) ?_
              simp only [vx, vz, Nat.reduceAdd, Nat.reduceSub, Nat.reduceMul, Nat.reduceLeDiff, Nat.reduceLT, Nat.reduceEqDiff, Nat.reduceBEq, Int.reduceToNat, Int.reduceNeg, Int.reduceEq, Int.reduceNe, Int.reduceLE, Int.reduceLT, reduceCtorEq, ↓reduceIte]
              refine call_p rfl (t18 m i l h (by have := mL4; omega)) ?_
              simp only [vx, vz, Nat.reduceAdd, Nat.reduceSub, Nat.reduceMul, Nat.reduceLeDiff, Nat.reduceLT, Nat.reduceEqDiff, Nat.reduceBEq, Int.reduceToNat, Int.reduceNeg, Int.reduceEq, Int.reduceNe, Int.reduceLE, Int.reduceLT, reduceCtorEq, ↓reduceIte]
              cases hex : excS m i l with
              | true =>
                rw [keepS, hix, hex, if_neg (by simp)] at hsn
                simp only [vx, vz, Nat.reduceAdd, Nat.reduceSub, Nat.reduceMul, Nat.reduceLeDiff, Nat.reduceLT, Nat.reduceEqDiff, Nat.reduceBEq, Int.reduceToNat, Int.reduceNeg, Int.reduceEq, Int.reduceNe, Int.reduceLE, Int.reduceLT, reduceCtorEq, ↓reduceIte]
                refine ls_n (t + 1) (by omega) ?_ (by omega)
                simp only [hsn]
                refine weak_any ?_
                simp only [vx, vz, Nat.reduceAdd, Nat.reduceSub, Nat.reduceMul, Nat.reduceLeDiff, Nat.reduceLT, Nat.reduceEqDiff, Nat.reduceBEq, Int.reduceToNat, Int.reduceNeg, Int.reduceEq, Int.reduceNe, Int.reduceLE, Int.reduceLT, reduceCtorEq, ↓reduceIte]
                rw [wr_i64 (by omega) (by omega)]
                trivial
              | false =>
                rw [keepS, hix, hex, if_pos (by simp)] at hsn
                simp only [vx, vz, Nat.reduceAdd, Nat.reduceSub, Nat.reduceMul, Nat.reduceLeDiff, Nat.reduceLT, Nat.reduceEqDiff, Nat.reduceBEq, Int.reduceToNat, Int.reduceNeg, Int.reduceEq, Int.reduceNe, Int.reduceLE, Int.reduceLT, reduceCtorEq, ↓reduceIte]
                refine ⟨by unfold maxBytes; omega, ?_⟩
                refine ls_n (t + 1) (by omega) (Weak.trans (weak_any ?_) (weak_frz2 2 (by omega) ⟨.same _ (by simp [rowB, hB]), ?_, trivial⟩ (kpL_refl ?_))) (by omega)
                · simp only [vx, vz, Nat.reduceAdd, Nat.reduceSub, Nat.reduceMul, Nat.reduceLeDiff, Nat.reduceLT, Nat.reduceEqDiff, Nat.reduceBEq, Int.reduceToNat, Int.reduceNeg, Int.reduceEq, Int.reduceNe, Int.reduceLE, Int.reduceLT, reduceCtorEq, ↓reduceIte]
                  rw [wr_i64 (by omega) (by omega), hsn, List.length_append]
                  exact ⟨rfl, rfl⟩
                · show RowK 2 _ _ (.live 1 (((outS m i (a.take (t + 1))).map iD).map (·.map .d)))
                  have e3 : (outS m i (a.take (t + 1))).map iD = (outS m i (a.take t)).map iD ++ [iD k] := by rw [hsn, List.map_append]; rfl
                  rw [e3]
                  exact rowK_snoc (x := iD k) ⟨.same _ rfl, trivial⟩
                · rfl
          · simp only [decide_eq_false_iff_not] at hc4
            rw [List.take_of_length_le (by omega)]
            simp only [vx, vz, Nat.reduceAdd, Nat.reduceSub, Nat.reduceMul, Nat.reduceLeDiff, Nat.reduceLT, Nat.reduceEqDiff, Nat.reduceBEq, Int.reduceToNat, Int.reduceNeg, Int.reduceEq, Int.reduceNe, Int.reduceLE, Int.reduceLT, reduceCtorEq, ↓reduceIte]
            exact sn_osl (es := (outS m i a).map iD) rfl (by simp) (by omega) (fun e he => by obtain ⟨t, _, rfl⟩ := List.mem_map.1 he; rfl) (by rw [List.drop_zero, List.take_of_length_le (by simp)]; rfl)
end Go.Proofs.Cr
