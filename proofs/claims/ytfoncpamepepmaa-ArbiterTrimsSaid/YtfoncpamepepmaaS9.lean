import Derived.Test.YtfoncpamepepmaaS8
set_option linter.unusedSimpArgs false
set_option linter.unusedVariables false
namespace Go.Proofs.Ar
open Go.Vx
abbrev bz (s : B) : Sl := (false, [], [], s)
theorem t26 (s : B) : CallP Try.prog 26 [.d (.str s)] (slV (bz s)) := by
  refine go26 ac26 rfl ?_
  simp only [vx, vz, Nat.reduceAdd, Nat.reduceSub, Nat.reduceMul, Nat.reduceLeDiff, Nat.reduceLT, Nat.reduceEqDiff, Nat.reduceBEq, Int.reduceToNat, Int.reduceNeg, Int.reduceEq, Int.reduceNe, Int.reduceLE, Int.reduceLT, reduceCtorEq, ↓reduceIte, ac26]
def exL : List (List Sl) := [[bz [97], bz [98]], [bz [120]]]
theorem exok : okL exL := ⟨by decide, fun s hs => by
  simp only [exL, List.mem_cons, List.not_mem_nil, or_false] at hs
  rcases hs with rfl | rfl
  · refine ⟨by decide, fun x hx => ?_⟩
    simp only [List.mem_cons, List.not_mem_nil, or_false] at hx
    rcases hx with rfl | rfl <;> exact ⟨Nat.zero_le _, Nat.zero_le _⟩
  · refine ⟨by decide, fun x hx => ?_⟩
    simp only [List.mem_cons, List.not_mem_nil, or_false] at hx
    subst hx; exact ⟨Nat.zero_le _, Nat.zero_le _⟩⟩
theorem ok3 {a b c : B} : ∀ x ∈ [bz a, bz b, bz c], okS x := fun x hx => by
  simp only [List.mem_cons, List.not_mem_nil, or_false] at hx
  rcases hx with rfl | rfl | rfl <;> exact ⟨Nat.zero_le _, Nat.zero_le _⟩
theorem sl_ok {rows : Go.Vx.Rows} {h : Nat} {l : List Sl} {n : Nat} (hr : rows[h]? = some (.live 4 ((l.map slD).map (·.map .d)))) (hn : n = l.length) : snapOk rows (.osl 4 h n 0 n) ∧ snapV rows (.osl 4 h n 0 n) = stV l := by
  subst hn
  constructor
  · refine ⟨by omega, _, hr, by simp, fun e he v hv => ?_⟩
    obtain ⟨d, _, rfl⟩ := List.mem_map.1 he
    obtain ⟨y, _, rfl⟩ := List.mem_map.1 hv
    rfl
  · simp only [snapV, snapC, hr]
    rw [List.drop_zero, List.take_of_length_le (by simp), List.map_map]
    have : ∀ x ∈ l.map slD, ((fun e : List V => e.map toD) ∘ fun e : List D => e.map V.d) x = x := fun x _ => by
      simp only [Function.comp, List.map_map]
      exact List.map_id _
    rw [List.map_congr_left this]
    simp
theorem t10 : CallP Try.prog 10 [] (.d (.bool true)) := by
  refine go10 (wkAt 2 ac10) rfl ?_
  simp only [vx, vz, Nat.reduceAdd, Nat.reduceSub, Nat.reduceMul, Nat.reduceLeDiff, Nat.reduceLT, Nat.reduceEqDiff, Nat.reduceBEq, Int.reduceToNat, Int.reduceNeg, Int.reduceEq, Int.reduceNe, Int.reduceLE, Int.reduceLT, reduceCtorEq, ↓reduceIte, ac10, wkAt]
  refine call_p rfl (t26 [97]) ?_
  simp only [vx, vz, Nat.reduceAdd, Nat.reduceSub, Nat.reduceMul, Nat.reduceLeDiff, Nat.reduceLT, Nat.reduceEqDiff, Nat.reduceBEq, Int.reduceToNat, Int.reduceNeg, Int.reduceEq, Int.reduceNe, Int.reduceLE, Int.reduceLT, reduceCtorEq, ↓reduceIte]
  refine call_p rfl (t26 [98]) ?_
  simp only [vx, vz, Nat.reduceAdd, Nat.reduceSub, Nat.reduceMul, Nat.reduceLeDiff, Nat.reduceLT, Nat.reduceEqDiff, Nat.reduceBEq, Int.reduceToNat, Int.reduceNeg, Int.reduceEq, Int.reduceNe, Int.reduceLE, Int.reduceLT, reduceCtorEq, ↓reduceIte]
  refine call_p rfl (t26 [120]) ?_
  simp only [vx, vz, Nat.reduceAdd, Nat.reduceSub, Nat.reduceMul, Nat.reduceLeDiff, Nat.reduceLT, Nat.reduceEqDiff, Nat.reduceBEq, Int.reduceToNat, Int.reduceNeg, Int.reduceEq, Int.reduceNe, Int.reduceLE, Int.reduceLT, reduceCtorEq, ↓reduceIte]
  refine wk_in ⟨mkF 31 [(1, llV exL)], []⟩ (Weak.trans (B := ⟨mkF 31 [(1, .osl 1 2 2 0 2)], _⟩) (weak_any ?_) (weak_frz2 0 (by omega) trivial (kpL_set (i := 1) rfl ?_ rfl))) ?_
  · simp only [vx, vz, Nat.reduceAdd, Nat.reduceSub, Nat.reduceMul, Nat.reduceLeDiff, Nat.reduceLT, Nat.reduceEqDiff, Nat.reduceBEq, Int.reduceToNat, Int.reduceNeg, Int.reduceEq, Int.reduceNe, Int.reduceLE, Int.reduceLT, reduceCtorEq, ↓reduceIte]
    try trivial
  · refine sn_oslZ rfl rfl (by decide) ⟨rfl, ⟨?_, trivial⟩, rfl, ⟨?_, trivial⟩, trivial⟩
    · exact sn_all (es := [bz [97], bz [98]].map slD) rfl rfl szl
    · exact sn_all (es := [bz [120]].map slD) rfl rfl szl
  simp only [vx, vz, Nat.reduceAdd, Nat.reduceSub, Nat.reduceMul, Nat.reduceLeDiff, Nat.reduceLT, Nat.reduceEqDiff, Nat.reduceBEq, Int.reduceToNat, Int.reduceNeg, Int.reduceEq, Int.reduceNe, Int.reduceLE, Int.reduceLT, reduceCtorEq, ↓reduceIte]
  have h11 := t11 exL exok
  have h14 := t14 exL exok
  rw [show outT exL (longS exL) = [bz [97], bz [120], bz [98]] from rfl] at h11
  rw [show firS exL = [bz [97], bz [98], bz [120]] from rfl] at h14
  refine call_p rfl (h11) ?_
  simp only [vx, vz, Nat.reduceAdd, Nat.reduceSub, Nat.reduceMul, Nat.reduceLeDiff, Nat.reduceLT, Nat.reduceEqDiff, Nat.reduceBEq, Int.reduceToNat, Int.reduceNeg, Int.reduceEq, Int.reduceNe, Int.reduceLE, Int.reduceLT, reduceCtorEq, ↓reduceIte]
  refine call_p rfl (t26 [97]) ?_
  simp only [vx, vz, Nat.reduceAdd, Nat.reduceSub, Nat.reduceMul, Nat.reduceLeDiff, Nat.reduceLT, Nat.reduceEqDiff, Nat.reduceBEq, Int.reduceToNat, Int.reduceNeg, Int.reduceEq, Int.reduceNe, Int.reduceLE, Int.reduceLT, reduceCtorEq, ↓reduceIte]
  refine call_p rfl (t26 [120]) ?_
  simp only [vx, vz, Nat.reduceAdd, Nat.reduceSub, Nat.reduceMul, Nat.reduceLeDiff, Nat.reduceLT, Nat.reduceEqDiff, Nat.reduceBEq, Int.reduceToNat, Int.reduceNeg, Int.reduceEq, Int.reduceNe, Int.reduceLE, Int.reduceLT, reduceCtorEq, ↓reduceIte]
  refine call_p rfl (t26 [98]) ?_
  simp only [vx, vz, Nat.reduceAdd, Nat.reduceSub, Nat.reduceMul, Nat.reduceLeDiff, Nat.reduceLT, Nat.reduceEqDiff, Nat.reduceBEq, Int.reduceToNat, Int.reduceNeg, Int.reduceEq, Int.reduceNe, Int.reduceLE, Int.reduceLT, reduceCtorEq, ↓reduceIte]
  refine call_s (v := .d (.bool true)) ?_ rfl ?_ ?_
  · intro x hx
    simp only [List.nil_append, List.append_nil, List.mem_cons, List.not_mem_nil, or_false] at hx
    rcases hx with rfl | rfl
    · rfl
    · exact (sl_ok (l := [bz [97], bz [120], bz [98]]) rfl rfl).1
  · simp only [List.nil_append, List.append_nil, List.map_cons, List.map_nil, (sl_ok (l := [bz [97], bz [120], bz [98]]) (h := 0) (n := 3) (rows := [RowS.live 4 ([bz [97], bz [120], bz [98]].map (fun s => (slD s).map .d)), .un]) rfl rfl).2]
    exact t12 [bz [97], bz [120], bz [98]] (by decide) ok3
  simp only [vx, vz, Nat.reduceAdd, Nat.reduceSub, Nat.reduceMul, Nat.reduceLeDiff, Nat.reduceLT, Nat.reduceEqDiff, Nat.reduceBEq, Int.reduceToNat, Int.reduceNeg, Int.reduceEq, Int.reduceNe, Int.reduceLE, Int.reduceLT, reduceCtorEq, ↓reduceIte]
  refine call_p rfl (h14) ?_
  simp only [vx, vz, Nat.reduceAdd, Nat.reduceSub, Nat.reduceMul, Nat.reduceLeDiff, Nat.reduceLT, Nat.reduceEqDiff, Nat.reduceBEq, Int.reduceToNat, Int.reduceNeg, Int.reduceEq, Int.reduceNe, Int.reduceLE, Int.reduceLT, reduceCtorEq, ↓reduceIte]
  refine call_p rfl (t26 [97]) ?_
  simp only [vx, vz, Nat.reduceAdd, Nat.reduceSub, Nat.reduceMul, Nat.reduceLeDiff, Nat.reduceLT, Nat.reduceEqDiff, Nat.reduceBEq, Int.reduceToNat, Int.reduceNeg, Int.reduceEq, Int.reduceNe, Int.reduceLE, Int.reduceLT, reduceCtorEq, ↓reduceIte]
  refine call_p rfl (t26 [98]) ?_
  simp only [vx, vz, Nat.reduceAdd, Nat.reduceSub, Nat.reduceMul, Nat.reduceLeDiff, Nat.reduceLT, Nat.reduceEqDiff, Nat.reduceBEq, Int.reduceToNat, Int.reduceNeg, Int.reduceEq, Int.reduceNe, Int.reduceLE, Int.reduceLT, reduceCtorEq, ↓reduceIte]
  refine call_p rfl (t26 [120]) ?_
  simp only [vx, vz, Nat.reduceAdd, Nat.reduceSub, Nat.reduceMul, Nat.reduceLeDiff, Nat.reduceLT, Nat.reduceEqDiff, Nat.reduceBEq, Int.reduceToNat, Int.reduceNeg, Int.reduceEq, Int.reduceNe, Int.reduceLE, Int.reduceLT, reduceCtorEq, ↓reduceIte]
  refine call_s (v := .d (.bool true)) ?_ rfl ?_ ?_
  · intro x hx
    simp only [List.nil_append, List.append_nil, List.mem_cons, List.not_mem_nil, or_false] at hx
    rcases hx with rfl | rfl
    · rfl
    · exact (sl_ok (l := [bz [97], bz [98], bz [120]]) rfl rfl).1
  · exact t12 [bz [97], bz [98], bz [120]] (by decide) ok3
  simp only [vx, vz, Nat.reduceAdd, Nat.reduceSub, Nat.reduceMul, Nat.reduceLeDiff, Nat.reduceLT, Nat.reduceEqDiff, Nat.reduceBEq, Int.reduceToNat, Int.reduceNeg, Int.reduceEq, Int.reduceNe, Int.reduceLE, Int.reduceLT, reduceCtorEq, ↓reduceIte, exL, stD]
  refine call_p rfl (t17 [bz [97], bz [98]] (by decide)) ?_
  simp only [vx, vz, Nat.reduceAdd, Nat.reduceSub, Nat.reduceMul, Nat.reduceLeDiff, Nat.reduceLT, Nat.reduceEqDiff, Nat.reduceBEq, Int.reduceToNat, Int.reduceNeg, Int.reduceEq, Int.reduceNe, Int.reduceLE, Int.reduceLT, reduceCtorEq, ↓reduceIte]
  exact decide_eq_true rfl
def fewX (x : Sl) : Bool := decide (x.2.1.length ≤ 10) && decide (x.2.2.1.length ≤ 10)
def fewL (s : List Sl) : Bool := decide (s.length ≤ 20) && s.all fewX
def fewS (l : List (List Sl)) : Bool := decide (l.length ≤ 8) && l.all fewL
def okA (l : List (List Sl)) : Prop := l.length ≤ maxLen ∧ ∀ s ∈ l, s.length ≤ maxLen ∧ ∀ x ∈ s, x.2.1.length ≤ maxLen ∧ x.2.2.1.length ≤ maxLen
theorem few_ok {l : List (List Sl)} (h : fewS l = true) : okL l ∧ l.length ≤ 8 := by
  simp only [fewS, fewL, fewX, Bool.and_eq_true, decide_eq_true_eq, List.all_eq_true] at h
  exact ⟨⟨by omega, fun s hs => ⟨(h.2 s hs).1, fun x hx => (h.2 s hs).2 x hx⟩⟩, h.1⟩
theorem t9 (l : List (List Sl)) (ok : okA l) : CallP Try.prog 9 [llV l] (.d (.bool (fewS l))) := by
  have hm := hm
  have hl1 := ok.1
  refine go9 ac9 rfl ?_
  simp only [vx, vz, Nat.reduceAdd, Nat.reduceSub, Nat.reduceMul, Nat.reduceLeDiff, Nat.reduceLT, Nat.reduceEqDiff, Nat.reduceBEq, Int.reduceToNat, Int.reduceNeg, Int.reduceEq, Int.reduceNe, Int.reduceLE, Int.reduceLT, reduceCtorEq, ↓reduceIte, ac9]
  refine cond_split (fun hc => ?_) (fun hc => ?_)
  · simp only [decide_eq_true_eq] at hc
    have : fewS l = false := by rw [fewS, df (by omega)]; rfl
    simp only [vx, vz, Nat.reduceAdd, Nat.reduceSub, Nat.reduceMul, Nat.reduceLeDiff, Nat.reduceLT, Nat.reduceEqDiff, Nat.reduceBEq, Int.reduceToNat, Int.reduceNeg, Int.reduceEq, Int.reduceNe, Int.reduceLE, Int.reduceLT, reduceCtorEq, ↓reduceIte, this]
  · simp only [decide_eq_false_iff_not] at hc
    have hf : fewS l = l.all fewL := by rw [fewS, dt (by omega)]; rfl
    simp only [vx, vz, Nat.reduceAdd, Nat.reduceSub, Nat.reduceMul, Nat.reduceLeDiff, Nat.reduceLT, Nat.reduceEqDiff, Nat.reduceBEq, Int.reduceToNat, Int.reduceNeg, Int.reduceEq, Int.reduceNe, Int.reduceLE, Int.reduceLT, reduceCtorEq, ↓reduceIte]
    refine loop_st (fun i : Nat => ⟨mkF 53 [(0, llV l), (3, .d (.int .i64 i))], []⟩) (fun i => i ≤ l.length ∧ fewS l = (l.drop i).all fewL) (fun i => l.length - i) 0 (weak_any (by simp only [vx, vz, Nat.reduceAdd, Nat.reduceSub, Nat.reduceMul, Nat.reduceLeDiff, Nat.reduceLT, Nat.reduceEqDiff, Nat.reduceBEq, Int.reduceToNat, Int.reduceNeg, Int.reduceEq, Int.reduceNe, Int.reduceLE, Int.reduceLT, reduceCtorEq, ↓reduceIte]; try trivial)) ⟨by omega, by rw [List.drop_zero]; exact hf⟩ (fun i hi => ?_)
    obtain ⟨h1, h2⟩ := hi
    simp only [vx, vz, Nat.reduceAdd, Nat.reduceSub, Nat.reduceMul, Nat.reduceLeDiff, Nat.reduceLT, Nat.reduceEqDiff, Nat.reduceBEq, Int.reduceToNat, Int.reduceNeg, Int.reduceEq, Int.reduceNe, Int.reduceLE, Int.reduceLT, reduceCtorEq, ↓reduceIte]
    refine cond_split (fun hc2 => ?_) (fun hc2 => ?_)
    · simp only [decide_eq_true_eq] at hc2
      obtain ⟨s, hs⟩ := get_ex (l := l) (i := i) (by omega)
      have hsl := ok.2 s (List.mem_of_getElem? hs)
      have hsl1 := hsl.1
      rw [drop_at hs, List.all_cons] at h2
      simp only [vx, vz, Nat.reduceAdd, Nat.reduceSub, Nat.reduceMul, Nat.reduceLeDiff, Nat.reduceLT, Nat.reduceEqDiff, Nat.reduceBEq, Int.reduceToNat, Int.reduceNeg, Int.reduceEq, Int.reduceNe, Int.reduceLE, Int.reduceLT, reduceCtorEq, ↓reduceIte]
      refine ⟨by omega, by omega, getM_at hs ?_⟩
      simp only [vx, vz, Nat.reduceAdd, Nat.reduceSub, Nat.reduceMul, Nat.reduceLeDiff, Nat.reduceLT, Nat.reduceEqDiff, Nat.reduceBEq, Int.reduceToNat, Int.reduceNeg, Int.reduceEq, Int.reduceNe, Int.reduceLE, Int.reduceLT, reduceCtorEq, ↓reduceIte]
      simp only [vx, vz, Nat.reduceAdd, Nat.reduceSub, Nat.reduceMul, Nat.reduceLeDiff, Nat.reduceLT, Nat.reduceEqDiff, Nat.reduceBEq, Int.reduceToNat, Int.reduceNeg, Int.reduceEq, Int.reduceNe, Int.reduceLE, Int.reduceLT, reduceCtorEq, ↓reduceIte, stD]
      refine cond_split (fun hc3 => ?_) (fun hc3 => ?_)
      · simp only [decide_eq_true_eq] at hc3
        rw [fewL, df (by omega), Bool.false_and, Bool.false_and] at h2
        simp only [vx, vz, Nat.reduceAdd, Nat.reduceSub, Nat.reduceMul, Nat.reduceLeDiff, Nat.reduceLT, Nat.reduceEqDiff, Nat.reduceBEq, Int.reduceToNat, Int.reduceNeg, Int.reduceEq, Int.reduceNe, Int.reduceLE, Int.reduceLT, reduceCtorEq, ↓reduceIte, h2]
      · simp only [decide_eq_false_iff_not] at hc3
        have hfl : fewL s = s.all fewX := by rw [fewL, dt (by omega)]; rfl
        rw [hfl] at h2
        simp only [vx, vz, Nat.reduceAdd, Nat.reduceSub, Nat.reduceMul, Nat.reduceLeDiff, Nat.reduceLT, Nat.reduceEqDiff, Nat.reduceBEq, Int.reduceToNat, Int.reduceNeg, Int.reduceEq, Int.reduceNe, Int.reduceLE, Int.reduceLT, reduceCtorEq, ↓reduceIte]
        refine loop_st (fun k : Nat => ⟨mkF 53 [(0, llV l), (3, .d (.int .i64 i)), (4, .d (.int .i64 k))], []⟩) (fun k => k ≤ s.length ∧ fewS l = ((s.drop k).all fewX && (l.drop (i + 1)).all fewL)) (fun k => s.length - k) 0 (weak_any (by simp only [vx, vz, Nat.reduceAdd, Nat.reduceSub, Nat.reduceMul, Nat.reduceLeDiff, Nat.reduceLT, Nat.reduceEqDiff, Nat.reduceBEq, Int.reduceToNat, Int.reduceNeg, Int.reduceEq, Int.reduceNe, Int.reduceLE, Int.reduceLT, reduceCtorEq, ↓reduceIte]; try trivial)) ⟨by omega, by rw [List.drop_zero]; exact h2⟩ (fun k hk => ?_)
        obtain ⟨h3, h4⟩ := hk
        simp only [vx, vz, Nat.reduceAdd, Nat.reduceSub, Nat.reduceMul, Nat.reduceLeDiff, Nat.reduceLT, Nat.reduceEqDiff, Nat.reduceBEq, Int.reduceToNat, Int.reduceNeg, Int.reduceEq, Int.reduceNe, Int.reduceLE, Int.reduceLT, reduceCtorEq, ↓reduceIte]
        refine ⟨by omega, by omega, getM_at hs ?_⟩
        simp only [vx, vz, Nat.reduceAdd, Nat.reduceSub, Nat.reduceMul, Nat.reduceLeDiff, Nat.reduceLT, Nat.reduceEqDiff, Nat.reduceBEq, Int.reduceToNat, Int.reduceNeg, Int.reduceEq, Int.reduceNe, Int.reduceLE, Int.reduceLT, reduceCtorEq, ↓reduceIte]
        simp only [vx, vz, Nat.reduceAdd, Nat.reduceSub, Nat.reduceMul, Nat.reduceLeDiff, Nat.reduceLT, Nat.reduceEqDiff, Nat.reduceBEq, Int.reduceToNat, Int.reduceNeg, Int.reduceEq, Int.reduceNe, Int.reduceLE, Int.reduceLT, reduceCtorEq, ↓reduceIte, stD]
        refine cond_split (fun hc4 => ?_) (fun hc4 => ?_)
        · simp only [decide_eq_true_eq] at hc4
          obtain ⟨x, hx⟩ := get_ex (l := s) (i := k) (by omega)
          have hxl := hsl.2 x (List.mem_of_getElem? hx)
          rw [drop_at hx, List.all_cons, fewX] at h4
          simp only [vx, vz, Nat.reduceAdd, Nat.reduceSub, Nat.reduceMul, Nat.reduceLeDiff, Nat.reduceLT, Nat.reduceEqDiff, Nat.reduceBEq, Int.reduceToNat, Int.reduceNeg, Int.reduceEq, Int.reduceNe, Int.reduceLE, Int.reduceLT, reduceCtorEq, ↓reduceIte]
          refine ⟨by omega, by omega, getM_at hs ?_⟩
          simp only [vx, vz, Nat.reduceAdd, Nat.reduceSub, Nat.reduceMul, Nat.reduceLeDiff, Nat.reduceLT, Nat.reduceEqDiff, Nat.reduceBEq, Int.reduceToNat, Int.reduceNeg, Int.reduceEq, Int.reduceNe, Int.reduceLE, Int.reduceLT, reduceCtorEq, ↓reduceIte]
          simp only [vx, vz, Nat.reduceAdd, Nat.reduceSub, Nat.reduceMul, Nat.reduceLeDiff, Nat.reduceLT, Nat.reduceEqDiff, Nat.reduceBEq, Int.reduceToNat, Int.reduceNeg, Int.reduceEq, Int.reduceNe, Int.reduceLE, Int.reduceLT, reduceCtorEq, ↓reduceIte, stD]
          refine ⟨by omega, by omega, getM_at hx ?_⟩
          simp only [vx, vz, Nat.reduceAdd, Nat.reduceSub, Nat.reduceMul, Nat.reduceLeDiff, Nat.reduceLT, Nat.reduceEqDiff, Nat.reduceBEq, Int.reduceToNat, Int.reduceNeg, Int.reduceEq, Int.reduceNe, Int.reduceLE, Int.reduceLT, reduceCtorEq, ↓reduceIte]
          simp only [vx, vz, Nat.reduceAdd, Nat.reduceSub, Nat.reduceMul, Nat.reduceLeDiff, Nat.reduceLT, Nat.reduceEqDiff, Nat.reduceBEq, Int.reduceToNat, Int.reduceNeg, Int.reduceEq, Int.reduceNe, Int.reduceLE, Int.reduceLT, reduceCtorEq, ↓reduceIte, slD]
          by_cases hq : 10 < (x.2.1.length : Int)
          · rw [df (show ¬ x.2.1.length ≤ 10 by omega), Bool.false_and, Bool.false_and, Bool.false_and] at h4
            simp only [vx, vz, Nat.reduceAdd, Nat.reduceSub, Nat.reduceMul, Nat.reduceLeDiff, Nat.reduceLT, Nat.reduceEqDiff, Nat.reduceBEq, Int.reduceToNat, Int.reduceNeg, Int.reduceEq, Int.reduceNe, Int.reduceLE, Int.reduceLT, reduceCtorEq, ↓reduceIte, dt hq, h4]
          · rw [dt (show x.2.1.length ≤ 10 by omega), Bool.true_and] at h4
            simp only [vx, vz, Nat.reduceAdd, Nat.reduceSub, Nat.reduceMul, Nat.reduceLeDiff, Nat.reduceLT, Nat.reduceEqDiff, Nat.reduceBEq, Int.reduceToNat, Int.reduceNeg, Int.reduceEq, Int.reduceNe, Int.reduceLE, Int.reduceLT, reduceCtorEq, ↓reduceIte, df hq]
            refine ⟨by omega, by omega, getM_at hs ?_⟩
            simp only [vx, vz, Nat.reduceAdd, Nat.reduceSub, Nat.reduceMul, Nat.reduceLeDiff, Nat.reduceLT, Nat.reduceEqDiff, Nat.reduceBEq, Int.reduceToNat, Int.reduceNeg, Int.reduceEq, Int.reduceNe, Int.reduceLE, Int.reduceLT, reduceCtorEq, ↓reduceIte]
            simp only [vx, vz, Nat.reduceAdd, Nat.reduceSub, Nat.reduceMul, Nat.reduceLeDiff, Nat.reduceLT, Nat.reduceEqDiff, Nat.reduceBEq, Int.reduceToNat, Int.reduceNeg, Int.reduceEq, Int.reduceNe, Int.reduceLE, Int.reduceLT, reduceCtorEq, ↓reduceIte, stD]
            refine ⟨by omega, by omega, getM_at hx ?_⟩
            simp only [vx, vz, Nat.reduceAdd, Nat.reduceSub, Nat.reduceMul, Nat.reduceLeDiff, Nat.reduceLT, Nat.reduceEqDiff, Nat.reduceBEq, Int.reduceToNat, Int.reduceNeg, Int.reduceEq, Int.reduceNe, Int.reduceLE, Int.reduceLT, reduceCtorEq, ↓reduceIte]
            simp only [vx, vz, Nat.reduceAdd, Nat.reduceSub, Nat.reduceMul, Nat.reduceLeDiff, Nat.reduceLT, Nat.reduceEqDiff, Nat.reduceBEq, Int.reduceToNat, Int.reduceNeg, Int.reduceEq, Int.reduceNe, Int.reduceLE, Int.reduceLT, reduceCtorEq, ↓reduceIte, slD]
            refine cond_split (fun hc5 => ?_) (fun hc5 => ?_)
            · simp only [decide_eq_true_eq] at hc5
              rw [df (show ¬ x.2.2.1.length ≤ 10 by omega), Bool.false_and, Bool.false_and] at h4
              simp only [vx, vz, Nat.reduceAdd, Nat.reduceSub, Nat.reduceMul, Nat.reduceLeDiff, Nat.reduceLT, Nat.reduceEqDiff, Nat.reduceBEq, Int.reduceToNat, Int.reduceNeg, Int.reduceEq, Int.reduceNe, Int.reduceLE, Int.reduceLT, reduceCtorEq, ↓reduceIte, h4]
            · simp only [decide_eq_false_iff_not] at hc5
              rw [dt (show x.2.2.1.length ≤ 10 by omega), Bool.true_and] at h4
              simp only [vx, vz, Nat.reduceAdd, Nat.reduceSub, Nat.reduceMul, Nat.reduceLeDiff, Nat.reduceLT, Nat.reduceEqDiff, Nat.reduceBEq, Int.reduceToNat, Int.reduceNeg, Int.reduceEq, Int.reduceNe, Int.reduceLE, Int.reduceLT, reduceCtorEq, ↓reduceIte]
              refine ls_n (k + 1) (by omega) (weak_any ?_) ⟨by omega, h4⟩
              simp only [vx, vz, Nat.reduceAdd, Nat.reduceSub, Nat.reduceMul, Nat.reduceLeDiff, Nat.reduceLT, Nat.reduceEqDiff, Nat.reduceBEq, Int.reduceToNat, Int.reduceNeg, Int.reduceEq, Int.reduceNe, Int.reduceLE, Int.reduceLT, reduceCtorEq, ↓reduceIte]
              rw [wr_i64 (by omega) (by omega)]
              try trivial
        · simp only [decide_eq_false_iff_not] at hc4
          rw [drop_end (l := s) (by omega), List.all_nil, Bool.true_and] at h4
          simp only [vx, vz, Nat.reduceAdd, Nat.reduceSub, Nat.reduceMul, Nat.reduceLeDiff, Nat.reduceLT, Nat.reduceEqDiff, Nat.reduceBEq, Int.reduceToNat, Int.reduceNeg, Int.reduceEq, Int.reduceNe, Int.reduceLE, Int.reduceLT, reduceCtorEq, ↓reduceIte]
          refine ls_n (i + 1) (by omega) (weak_any ?_) ⟨by omega, h4⟩
          simp only [vx, vz, Nat.reduceAdd, Nat.reduceSub, Nat.reduceMul, Nat.reduceLeDiff, Nat.reduceLT, Nat.reduceEqDiff, Nat.reduceBEq, Int.reduceToNat, Int.reduceNeg, Int.reduceEq, Int.reduceNe, Int.reduceLE, Int.reduceLT, reduceCtorEq, ↓reduceIte]
          rw [wr_i64 (by omega) (by omega)]
          try trivial
    · simp only [decide_eq_false_iff_not] at hc2
      rw [drop_end (by omega), List.all_nil] at h2
      simp only [vx, vz, Nat.reduceAdd, Nat.reduceSub, Nat.reduceMul, Nat.reduceLeDiff, Nat.reduceLT, Nat.reduceEqDiff, Nat.reduceBEq, Int.reduceToNat, Int.reduceNeg, Int.reduceEq, Int.reduceNe, Int.reduceLE, Int.reduceLT, reduceCtorEq, ↓reduceIte, h2]
end Go.Proofs.Ar
