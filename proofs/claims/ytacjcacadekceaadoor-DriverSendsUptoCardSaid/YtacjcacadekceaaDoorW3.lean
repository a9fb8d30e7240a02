import Derived.Test.YtacjcacadekceaaDoorW2
set_option linter.unusedSimpArgs false
set_option linter.unusedVariables false
namespace Go.Proofs.Dr
open Go.Vx
abbrev Sg := B × Int
def sgD (s : Sg) : List D := [.str s.1, .int .i64 s.2]
abbrev sgL (l : List Sg) : V := .d (.sl 2 (l.map sgD))
abbrev sgR (l : List Sg) : RowS := .live 2 ((l.map sgD).map (·.map .d))
def hasS (o : List Sg) (n : B) : Bool := o.any fun s => decide (s.1 = n)
def addS (o : List Sg) (n : B) (v : Int) : List Sg := if hasS o n = true then o else o ++ [(n, v)]
theorem t35 (s : Sg) (n : B) : CallP Tryd.prog 35 [.agg [.d (.str s.1), .d (.int .i64 s.2)], .d (.ptr [.str n])] (.d (.bool (decide (s.1 = n)))) := by
  refine go35 ac35 rfl ?_
  simp only [vx, vz, Nat.reduceAdd, Nat.reduceSub, Nat.reduceMul, Nat.reduceLeDiff, Nat.reduceLT, Nat.reduceEqDiff, Nat.reduceBEq, Int.reduceToNat, Int.reduceNeg, Int.reduceEq, Int.reduceNe, Int.reduceLE, Int.reduceLT, reduceCtorEq, ↓reduceIte, ac35]
def sidx (n : B) : List Sg → Nat → Int
  | [], _ => -1
  | x :: l, i => if x.1 = n then (i : Int) else sidx n l (i + 1)
theorem sidx_ge (n : B) (l : List Sg) (k : Nat) : decide (0 ≤ sidx n l k) = hasS l n := by
  induction l generalizing k with
  | nil => rfl
  | cons x l ih =>
    rw [sidx, hasS, List.any_cons]
    by_cases h : x.1 = n
    · rw [if_pos h, dt h]; simp
    · rw [if_neg h, df h, ih]; rfl
theorem t50 (l : List Sg) (n : B) (hl : l.length ≤ 40000000) : CallP Tryd.prog 50 [sgL l, .fn (.func 35) [] [.d (.ptr [.str n])]] (.d (.int .i64 (sidx n l 0))) := by
  refine go50 ac50 rfl ?_
  simp only [vx, vz, Nat.reduceAdd, Nat.reduceSub, Nat.reduceMul, Nat.reduceLeDiff, Nat.reduceLT, Nat.reduceEqDiff, Nat.reduceBEq, Int.reduceToNat, Int.reduceNeg, Int.reduceEq, Int.reduceNe, Int.reduceLE, Int.reduceLT, reduceCtorEq, ↓reduceIte, ac50]
  refine loop_st (fun i : Nat => ⟨mkF 19 [(0, sgL l), (1, .fn (.func 35) [] [.d (.ptr [.str n])]), (7, .d (.int .i64 l.length)), (8, .d (.int .i64 i))], []⟩) (fun i => i ≤ l.length ∧ sidx n l 0 = sidx n (l.drop i) i) (fun i => l.length - i) 0 (weak_any (by simp only [vx, vz, Nat.reduceAdd, Nat.reduceSub, Nat.reduceMul, Nat.reduceLeDiff, Nat.reduceLT, Nat.reduceEqDiff, Nat.reduceBEq, Int.reduceToNat, Int.reduceNeg, Int.reduceEq, Int.reduceNe, Int.reduceLE, Int.reduceLT, reduceCtorEq, ↓reduceIte]; try trivial)) ⟨by omega, rfl⟩ (fun i hi => ?_)
  obtain ⟨h1, h2⟩ := hi
  simp only [vx, vz, Nat.reduceAdd, Nat.reduceSub, Nat.reduceMul, Nat.reduceLeDiff, Nat.reduceLT, Nat.reduceEqDiff, Nat.reduceBEq, Int.reduceToNat, Int.reduceNeg, Int.reduceEq, Int.reduceNe, Int.reduceLE, Int.reduceLT, reduceCtorEq, ↓reduceIte]
  refine cond_split (fun hc => ?_) (fun hc => ?_)
  · simp only [decide_eq_true_eq] at hc
    obtain ⟨x, hx⟩ := get_ex (l := l) (i := i) (by omega)
    rw [drop_at hx, sidx] at h2
    simp only [vx, vz, Nat.reduceAdd, Nat.reduceSub, Nat.reduceMul, Nat.reduceLeDiff, Nat.reduceLT, Nat.reduceEqDiff, Nat.reduceBEq, Int.reduceToNat, Int.reduceNeg, Int.reduceEq, Int.reduceNe, Int.reduceLE, Int.reduceLT, reduceCtorEq, ↓reduceIte]
    refine ⟨by omega, by omega, getM_at hx ?_⟩
    simp only [vx, vz, Nat.reduceAdd, Nat.reduceSub, Nat.reduceMul, Nat.reduceLeDiff, Nat.reduceLT, Nat.reduceEqDiff, Nat.reduceBEq, Int.reduceToNat, Int.reduceNeg, Int.reduceEq, Int.reduceNe, Int.reduceLE, Int.reduceLT, reduceCtorEq, ↓reduceIte]
    simp only [vx, vz, Nat.reduceAdd, Nat.reduceSub, Nat.reduceMul, Nat.reduceLeDiff, Nat.reduceLT, Nat.reduceEqDiff, Nat.reduceBEq, Int.reduceToNat, Int.reduceNeg, Int.reduceEq, Int.reduceNe, Int.reduceLE, Int.reduceLT, reduceCtorEq, ↓reduceIte, sgD]
    refine call_p rfl (t35 x n) ?_
    simp only [vx, vz, Nat.reduceAdd, Nat.reduceSub, Nat.reduceMul, Nat.reduceLeDiff, Nat.reduceLT, Nat.reduceEqDiff, Nat.reduceBEq, Int.reduceToNat, Int.reduceNeg, Int.reduceEq, Int.reduceNe, Int.reduceLE, Int.reduceLT, reduceCtorEq, ↓reduceIte]
    by_cases hb : x.1 = n
    · rw [if_pos hb] at h2
      simp only [vx, vz, Nat.reduceAdd, Nat.reduceSub, Nat.reduceMul, Nat.reduceLeDiff, Nat.reduceLT, Nat.reduceEqDiff, Nat.reduceBEq, Int.reduceToNat, Int.reduceNeg, Int.reduceEq, Int.reduceNe, Int.reduceLE, Int.reduceLT, reduceCtorEq, ↓reduceIte, dt hb, h2]
    · rw [if_neg hb] at h2
      simp only [vx, vz, Nat.reduceAdd, Nat.reduceSub, Nat.reduceMul, Nat.reduceLeDiff, Nat.reduceLT, Nat.reduceEqDiff, Nat.reduceBEq, Int.reduceToNat, Int.reduceNeg, Int.reduceEq, Int.reduceNe, Int.reduceLE, Int.reduceLT, reduceCtorEq, ↓reduceIte, df hb]
      refine ls_n (i + 1) (by omega) (weak_any ?_) ⟨by omega, h2⟩
      simp only [vx, vz, Nat.reduceAdd, Nat.reduceSub, Nat.reduceMul, Nat.reduceLeDiff, Nat.reduceLT, Nat.reduceEqDiff, Nat.reduceBEq, Int.reduceToNat, Int.reduceNeg, Int.reduceEq, Int.reduceNe, Int.reduceLE, Int.reduceLT, reduceCtorEq, ↓reduceIte]
      rw [wr_i64 (by omega) (by omega)]
      first | trivial | exact ⟨rfl, rfl⟩
  · simp only [decide_eq_false_iff_not] at hc
    rw [drop_end (by omega), sidx] at h2
    simp only [vx, vz, Nat.reduceAdd, Nat.reduceSub, Nat.reduceMul, Nat.reduceLeDiff, Nat.reduceLT, Nat.reduceEqDiff, Nat.reduceBEq, Int.reduceToNat, Int.reduceNeg, Int.reduceEq, Int.reduceNe, Int.reduceLE, Int.reduceLT, reduceCtorEq, ↓reduceIte, h2]
theorem t34 (l : List Sg) (n : B) (hl : l.length ≤ 40000000) : CallP Tryd.prog 34 [sgL l, .fn (.func 35) [] [.d (.ptr [.str n])]] (.d (.bool (hasS l n))) := by
  refine go34 ac34 rfl ?_
  simp only [vx, vz, Nat.reduceAdd, Nat.reduceSub, Nat.reduceMul, Nat.reduceLeDiff, Nat.reduceLT, Nat.reduceEqDiff, Nat.reduceBEq, Int.reduceToNat, Int.reduceNeg, Int.reduceEq, Int.reduceNe, Int.reduceLE, Int.reduceLT, reduceCtorEq, ↓reduceIte, ac34]
  refine call_p rfl (t50 l n hl) ?_
  simp only [vx, vz, Nat.reduceAdd, Nat.reduceSub, Nat.reduceMul, Nat.reduceLeDiff, Nat.reduceLT, Nat.reduceEqDiff, Nat.reduceBEq, Int.reduceToNat, Int.reduceNeg, Int.reduceEq, Int.reduceNe, Int.reduceLE, Int.reduceLT, reduceCtorEq, ↓reduceIte]
  rw [sidx_ge]
theorem t50n (f : V) : CallP Tryd.prog 50 [.d .nils, .fn (.func 35) [] [f]] (.d (.int .i64 (-1))) := by
  refine go50 ac50 rfl ?_
  simp only [vx, vz, Nat.reduceAdd, Nat.reduceSub, Nat.reduceMul, Nat.reduceLeDiff, Nat.reduceLT, Nat.reduceEqDiff, Nat.reduceBEq, Int.reduceToNat, Int.reduceNeg, Int.reduceEq, Int.reduceNe, Int.reduceLE, Int.reduceLT, reduceCtorEq, ↓reduceIte, ac50]
  refine loop_st (fun _ : Unit => ⟨mkF 19 [(7, .d (.int .i64 0)), (8, .d (.int .i64 0))], []⟩) (fun _ => True) (fun _ => 0) () (weak_any (by simp only [vx, vz, Nat.reduceAdd, Nat.reduceSub, Nat.reduceMul, Nat.reduceLeDiff, Nat.reduceLT, Nat.reduceEqDiff, Nat.reduceBEq, Int.reduceToNat, Int.reduceNeg, Int.reduceEq, Int.reduceNe, Int.reduceLE, Int.reduceLT, reduceCtorEq, ↓reduceIte]; try trivial)) trivial (fun i hi => ?_)
  simp only [vx, vz, Nat.reduceAdd, Nat.reduceSub, Nat.reduceMul, Nat.reduceLeDiff, Nat.reduceLT, Nat.reduceEqDiff, Nat.reduceBEq, Int.reduceToNat, Int.reduceNeg, Int.reduceEq, Int.reduceNe, Int.reduceLE, Int.reduceLT, reduceCtorEq, ↓reduceIte]
theorem t34n (n : B) : CallP Tryd.prog 34 [.d .nils, .fn (.func 35) [] [.d (.ptr [.str n])]] (.d (.bool false)) := by
  refine go34 ac34 rfl ?_
  simp only [vx, vz, Nat.reduceAdd, Nat.reduceSub, Nat.reduceMul, Nat.reduceLeDiff, Nat.reduceLT, Nat.reduceEqDiff, Nat.reduceBEq, Int.reduceToNat, Int.reduceNeg, Int.reduceEq, Int.reduceNe, Int.reduceLE, Int.reduceLT, reduceCtorEq, ↓reduceIte, ac34]
  refine call_p rfl (t50n _) ?_
  simp only [vx, vz, Nat.reduceAdd, Nat.reduceSub, Nat.reduceMul, Nat.reduceLeDiff, Nat.reduceLT, Nat.reduceEqDiff, Nat.reduceBEq, Int.reduceToNat, Int.reduceNeg, Int.reduceEq, Int.reduceNe, Int.reduceLE, Int.reduceLT, reduceCtorEq, ↓reduceIte]
theorem t37 (l : List Sg) (n : B) (hl : l.length ≤ 40000000) : CallP Tryd.prog 37 [sgL l, .d (.str n)] (.d (.bool (hasS l n))) := by
  refine go37 ac37 rfl ?_
  simp only [vx, vz, Nat.reduceAdd, Nat.reduceSub, Nat.reduceMul, Nat.reduceLeDiff, Nat.reduceLT, Nat.reduceEqDiff, Nat.reduceBEq, Int.reduceToNat, Int.reduceNeg, Int.reduceEq, Int.reduceNe, Int.reduceLE, Int.reduceLT, reduceCtorEq, ↓reduceIte, ac37]
  refine loop_st (fun i : Nat => ⟨mkF 19 [(0, sgL l), (1, .d (.str n)), (5, .d (.int .i64 i))], []⟩) (fun i => i ≤ l.length ∧ hasS l n = hasS (l.drop i) n) (fun i => l.length - i) 0 (weak_any (by simp only [vx, vz, Nat.reduceAdd, Nat.reduceSub, Nat.reduceMul, Nat.reduceLeDiff, Nat.reduceLT, Nat.reduceEqDiff, Nat.reduceBEq, Int.reduceToNat, Int.reduceNeg, Int.reduceEq, Int.reduceNe, Int.reduceLE, Int.reduceLT, reduceCtorEq, ↓reduceIte]; try trivial)) ⟨by omega, rfl⟩ (fun i hi => ?_)
  obtain ⟨h1, h2⟩ := hi
  simp only [vx, vz, Nat.reduceAdd, Nat.reduceSub, Nat.reduceMul, Nat.reduceLeDiff, Nat.reduceLT, Nat.reduceEqDiff, Nat.reduceBEq, Int.reduceToNat, Int.reduceNeg, Int.reduceEq, Int.reduceNe, Int.reduceLE, Int.reduceLT, reduceCtorEq, ↓reduceIte]
  refine cond_split (fun hc => ?_) (fun hc => ?_)
  · simp only [decide_eq_true_eq] at hc
    obtain ⟨x, hx⟩ := get_ex (l := l) (i := i) (by omega)
    rw [drop_at hx, show hasS (x :: l.drop (i + 1)) n = (decide (x.1 = n) || hasS (l.drop (i + 1)) n) from rfl] at h2
    simp only [vx, vz, Nat.reduceAdd, Nat.reduceSub, Nat.reduceMul, Nat.reduceLeDiff, Nat.reduceLT, Nat.reduceEqDiff, Nat.reduceBEq, Int.reduceToNat, Int.reduceNeg, Int.reduceEq, Int.reduceNe, Int.reduceLE, Int.reduceLT, reduceCtorEq, ↓reduceIte]
    refine ⟨by omega, by omega, getM_at hx ?_⟩
    simp only [vx, vz, Nat.reduceAdd, Nat.reduceSub, Nat.reduceMul, Nat.reduceLeDiff, Nat.reduceLT, Nat.reduceEqDiff, Nat.reduceBEq, Int.reduceToNat, Int.reduceNeg, Int.reduceEq, Int.reduceNe, Int.reduceLE, Int.reduceLT, reduceCtorEq, ↓reduceIte]
    simp only [vx, vz, Nat.reduceAdd, Nat.reduceSub, Nat.reduceMul, Nat.reduceLeDiff, Nat.reduceLT, Nat.reduceEqDiff, Nat.reduceBEq, Int.reduceToNat, Int.reduceNeg, Int.reduceEq, Int.reduceNe, Int.reduceLE, Int.reduceLT, reduceCtorEq, ↓reduceIte, sgD]
    by_cases hb : x.1 = n
    · rw [dt hb, Bool.true_or] at h2
      simp only [vx, vz, Nat.reduceAdd, Nat.reduceSub, Nat.reduceMul, Nat.reduceLeDiff, Nat.reduceLT, Nat.reduceEqDiff, Nat.reduceBEq, Int.reduceToNat, Int.reduceNeg, Int.reduceEq, Int.reduceNe, Int.reduceLE, Int.reduceLT, reduceCtorEq, ↓reduceIte, dt hb, h2]
      first | done | rfl
    · rw [df hb, Bool.false_or] at h2
      simp only [vx, vz, Nat.reduceAdd, Nat.reduceSub, Nat.reduceMul, Nat.reduceLeDiff, Nat.reduceLT, Nat.reduceEqDiff, Nat.reduceBEq, Int.reduceToNat, Int.reduceNeg, Int.reduceEq, Int.reduceNe, Int.reduceLE, Int.reduceLT, reduceCtorEq, ↓reduceIte, df hb]
      refine ls_n (i + 1) (by omega) (weak_any ?_) ⟨by omega, h2⟩
      simp only [vx, vz, Nat.reduceAdd, Nat.reduceSub, Nat.reduceMul, Nat.reduceLeDiff, Nat.reduceLT, Nat.reduceEqDiff, Nat.reduceBEq, Int.reduceToNat, Int.reduceNeg, Int.reduceEq, Int.reduceNe, Int.reduceLE, Int.reduceLT, reduceCtorEq, ↓reduceIte]
      rw [wr_i64 (by omega) (by omega)]
      first | trivial | exact ⟨rfl, rfl⟩
  · simp only [decide_eq_false_iff_not] at hc
    rw [drop_end (by omega)] at h2
    simp only [vx, vz, Nat.reduceAdd, Nat.reduceSub, Nat.reduceMul, Nat.reduceLeDiff, Nat.reduceLT, Nat.reduceEqDiff, Nat.reduceBEq, Int.reduceToNat, Int.reduceNeg, Int.reduceEq, Int.reduceNe, Int.reduceLE, Int.reduceLT, reduceCtorEq, ↓reduceIte, h2]
    first | done | rfl
/-- the first signal -/
theorem i33n (n : B) (v : Int) {r0 r1 : RowS} {K : V → Go.Vx.Rows → Prop} (hK : ∀ x3 x4 T, K (.tup []) (r0 :: r1 :: .live 1 [[.osl 2 5 1 0 1]] :: x3 :: x4 :: sgR [(n, v)] :: T)) :
    InlP Tryd.prog 33 [.d (.str n), .d (.int .i64 v), .optr 1 2 1 0 0] [r0, r1, .live 1 [[.d .nils]]] K := by
  refine gi33 ac33 rfl ?_
  simp only [vx, vz, Nat.reduceAdd, Nat.reduceSub, Nat.reduceMul, Nat.reduceLeDiff, Nat.reduceLT, Nat.reduceEqDiff, Nat.reduceBEq, Int.reduceToNat, Int.reduceNeg, Int.reduceEq, Int.reduceNe, Int.reduceLE, Int.reduceLT, reduceCtorEq, ↓reduceIte, ac33]
  refine call_s (v := .d (.bool false)) (by simp [snapOk, snapCOk, Go.Vx.rowAt, isD, noH, noH1]) rfl (by simpa [snapV, snapC, toD] using t34n n) ?_
  simp only [vx, vz, Nat.reduceAdd, Nat.reduceSub, Nat.reduceMul, Nat.reduceLeDiff, Nat.reduceLT, Nat.reduceEqDiff, Nat.reduceBEq, Int.reduceToNat, Int.reduceNeg, Int.reduceEq, Int.reduceNe, Int.reduceLE, Int.reduceLT, reduceCtorEq, ↓reduceIte]
  exact ⟨by rw [mxB]; decide, hK _ _ []⟩
theorem dataBack (es : List (List D)) : (es.map (·.map V.d)).map (·.map toD) = es := by
  rw [List.map_map]
  have : ((fun x : List V => x.map toD) ∘ fun x : List D => x.map V.d) = id := by
    funext x
    simp only [Function.comp, List.map_map, id]
    have : (toD ∘ V.d) = id := rfl
    rw [this, List.map_id]
  rw [this, List.map_id]
theorem snap_row {rows : Go.Vx.Rows} {h sz n : Nat} {es : List (List D)} (hr : rows[h]? = some (.live sz (es.map (·.map .d)))) (hn : es.length = n) : snapOk rows (.osl sz h n 0 n) ∧ snapV rows (.osl sz h n 0 n) = .d (.sl sz es) := by
  refine ⟨⟨by omega, _, hr, by simpa using hn, fun e he v hv => ?_⟩, ?_⟩
  · obtain ⟨d, _, rfl⟩ := List.mem_map.1 he
    obtain ⟨y, _, rfl⟩ := List.mem_map.1 hv
    rfl
  · simp only [snapV, snapC, hr]
    rw [List.drop_zero, List.take_of_length_le (by simp [hn]), dataBack]
theorem i33 (o : List Sg) (n : B) (v : Int) (hl : o.length ≤ 30000000) {r0 r1 x3 x4 : RowS} {K : V → Go.Vx.Rows → Prop} (hK : ∀ T, K (.tup []) (r0 :: r1 :: .live 1 [[.osl 2 5 (addS o n v).length 0 (addS o n v).length]] :: x3 :: x4 :: sgR (addS o n v) :: T)) :
    InlP Tryd.prog 33 [.d (.str n), .d (.int .i64 v), .optr 1 2 1 0 0] [r0, r1, .live 1 [[.osl 2 5 o.length 0 o.length]], x3, x4, sgR o] K := by
  refine gi33 ac33 rfl ?_
  simp only [vx, vz, Nat.reduceAdd, Nat.reduceSub, Nat.reduceMul, Nat.reduceLeDiff, Nat.reduceLT, Nat.reduceEqDiff, Nat.reduceBEq, Int.reduceToNat, Int.reduceNeg, Int.reduceEq, Int.reduceNe, Int.reduceLE, Int.reduceLT, reduceCtorEq, ↓reduceIte, ac33]
  obtain ⟨k1, k2⟩ := snap_row (rows := [r0, r1, .live 1 [[.osl 2 5 o.length 0 o.length]], x3, x4, sgR o, .live 1 [[.d (.str n)]]]) (h := 5) (sz := 2) (es := o.map sgD) (n := o.length) rfl (by simp)
  refine call_s (v := .d (.bool (hasS o n))) (fun x hx => ?_) rfl ?_ ?_
  · simp only [List.nil_append, List.append_nil, List.mem_cons, List.not_mem_nil, or_false] at hx
    rcases hx with rfl | rfl
    · exact k1
    · simp [snapOk, snapCOk, isD]
  · simp only [List.nil_append, List.append_nil, List.map_cons, List.map_nil, k2]
    exact t34 o n (by omega)
  simp only [vx, vz, Nat.reduceAdd, Nat.reduceSub, Nat.reduceMul, Nat.reduceLeDiff, Nat.reduceLT, Nat.reduceEqDiff, Nat.reduceBEq, Int.reduceToNat, Int.reduceNeg, Int.reduceEq, Int.reduceNe, Int.reduceLE, Int.reduceLT, reduceCtorEq, ↓reduceIte]
  have hlen : ((o.map sgD).map (·.map V.d)).length = o.length := by simp
  cases hh : hasS o n with
  | true =>
    simp only [vx, vz, Nat.reduceAdd, Nat.reduceSub, Nat.reduceMul, Nat.reduceLeDiff, Nat.reduceLT, Nat.reduceEqDiff, Nat.reduceBEq, Int.reduceToNat, Int.reduceNeg, Int.reduceEq, Int.reduceNe, Int.reduceLE, Int.reduceLT, reduceCtorEq, ↓reduceIte]
    have := hK [.live 1 [[.d (.str n)]]]
    rw [addS, if_pos hh] at this
    exact this
  | false =>
    simp only [vx, vz, Nat.reduceAdd, Nat.reduceSub, Nat.reduceMul, Nat.reduceLeDiff, Nat.reduceLT, Nat.reduceEqDiff, Nat.reduceBEq, Int.reduceToNat, Int.reduceNeg, Int.reduceEq, Int.reduceNe, Int.reduceLE, Int.reduceLT, reduceCtorEq, ↓reduceIte]
    refine ⟨by rw [mxB]; omega, ?_⟩
    have := hK [.live 1 [[.d (.str n)]], .live 2 [[.d (.str n), .d (.int .i64 v)]], .un]
    rw [addS, if_neg (by rw [hh]; decide)] at this
    rw [show sgR (o ++ [(n, v)]) = .live 2 ((o.map sgD).map (·.map .d) ++ [[.d (.str n), .d (.int .i64 v)]]) by simp [sgR, sgD], List.length_append] at this
    exact this
/-- a channel -/
structure Chn where
  va : B
  re : B
  fs : List B
def Chn.d (c : Chn) : List D := [.str c.va, .str c.re, .sl 1 (strs c.fs)]
abbrev chV (c : Chn) : V := .agg [.d (.str c.va), .d (.str c.re), .d (.sl 1 (strs c.fs))]
def onS (d : Dv) : Bool := vldD d && busS d
/-- the value of a field -/
def fldS (d : Dv) (n : B) : Int := match nowS d with
  | some s => if onS d = true then (getS s.tx n).1 else 0
  | none => 0
def bit (b : Bool) : Int := if b = true then 1 else 0
def drvG (d : Dv) : List B → List Sg → List Sg
  | [], o => o
  | n :: l, o => drvG d l (addS o n (fldS d n))
def drvS (d : Dv) (c : Chn) : List Sg := drvG d c.fs [(c.va, bit (onS d))]
theorem add_len {o : List Sg} {n : B} {v : Int} : (addS o n v).length ≤ o.length + 1 := by
  unfold addS; split <;> simp
theorem on_now {d : Dv} (h : onS d = true) : ∃ (i : Nat) (s : Slo), d.at_ = i ∧ d.sl[i]? = some s ∧ nowS d = some s ∧ s.idl = false ∧ vldT s.tx = true := by
  simp only [onS, Bool.and_eq_true] at h
  obtain ⟨hv, hb⟩ := h
  obtain ⟨h1, h2, _, _, _, h6⟩ := vld_in hv
  unfold busS at hb
  by_cases hlt : d.at_ < d.sl.length
  · obtain ⟨i, hi⟩ : ∃ i : Nat, d.at_ = i := ⟨d.at_.toNat, by omega⟩
    obtain ⟨s, hs⟩ := get_ex (l := d.sl) (i := i) (by omega)
    have hn := now_at hi hs
    rw [hn] at hb
    simp only [Bool.not_eq_true'] at hb
    refine ⟨i, s, hi, hs, hn, hb, ?_⟩
    have := List.any_eq_false.1 h6 s (List.mem_of_getElem? hs)
    simpa [badS, hb] using this
  · rw [now_no (.inr (by omega))] at hb; cases hb
theorem sn_sg {rows : Go.Vx.Rows} {l : List Sg} {h : Nat} (hr : Go.Vx.rowAt rows h = sgR l) : Snap rows (.osl 2 h l.length 0 l.length) (sgL l) :=
  sn_all (es := l.map sgD) hr (by simp) (fun e he => by obtain ⟨t, _, rfl⟩ := List.mem_map.1 he; rfl)
theorem weak_dead {b0 : Nat} {fr : List V} {rows rows' : Go.Vx.Rows} (hs : List Nat) (he : setRows rows (hs.map fun h => (h, RowS.dead)) = rows') : Weak b0 ⟨fr, rows⟩ ⟨fr, rows'⟩ := by
  subst he
  rintro c0 a w - ⟨ρ, I, ok, hx, hd, hl, hf⟩
  obtain ⟨h1, h2⟩ := kill_ok ok hs
  exact ⟨_, _, h1, hx.trans h2, hd, hl, fun i => (hf i).mono h2 ok⟩
theorem drvG_snoc (d : Dv) (l : List B) (n : B) (o : List Sg) : drvG d (l ++ [n]) o = addS (drvG d l o) n (fldS d n) := by
  induction l generalizing o with
  | nil => rfl
  | cons x l ih => rw [List.cons_append, drvG, ih, drvG]
theorem drvG_len (d : Dv) (l : List B) (o : List Sg) : (drvG d l o).length ≤ o.length + l.length := by
  induction l generalizing o with
  | nil => exact Nat.le_refl _
  | cons x l ih =>
    rw [drvG, List.length_cons]
    have h1 := ih (addS o x (fldS d x))
    have h2 := add_len (o := o) (n := x) (v := fldS d x)
    omega
abbrev rD (d : Dv) : RowS := .live 3 [[slL d.sl, .d (.int .i64 d.at_), .d (.int .i64 d.wt)]]
abbrev rC (c : Chn) : RowS := .live 3 [[.d (.str c.va), .d (.str c.re), .d (.sl 1 (strs c.fs))]]
abbrev r6 (d : Dv) (c : Chn) (o : List Sg) : Go.Vx.Rows := [rD d, rC c, .live 1 [[.osl 2 5 o.length 0 o.length]], .dead, .dead, sgR o]
theorem weak6 {fr : List V} {d : Dv} {c : Chn} {o : List Sg} {x3 x4 : RowS} {T : Go.Vx.Rows} (h : fr.all (hB 6) = true) : Weak 0 ⟨fr, rD d :: rC c :: .live 1 [[.osl 2 5 o.length 0 o.length]] :: x3 :: x4 :: sgR o :: T⟩ ⟨fr, r6 d c o⟩ := by
  refine Weak.trans (weak_dead [3, 4] rfl) ?_
  refine weak_frzA (A := r6 d c o) (T := T) (Nat.zero_le _) (rowsK_same fun r hr => ?_) (kpL_refl h)
  simp only [r6, List.mem_cons, List.not_mem_nil, or_false] at hr
  rcases hr with rfl | rfl | rfl | rfl | rfl | rfl
  · intro e he v hv; simp at he; subst he; simp at hv; rcases hv with rfl | rfl | rfl <;> rfl
  · intro e he v hv; simp at he; subst he; simp at hv; rcases hv with rfl | rfl | rfl <;> rfl
  · intro e he v hv; simp at he; subst he; simp at hv; subst hv; simp [hB]
  · trivial
  · trivial
  · exact rowB_data
def A20 : AC := AC.at (AC.look [false, false, false, true]) [1, 1, 1, 1, 1, 0, 1, 2, 2, 1, 1, 0, 2, 1, 1, 1] ac20
theorem t20 (d : Dv) (c : Chn) (ok : okLs d.sl) (hc : c.fs.length ≤ 20000000) : CallP Tryd.prog 20 [dvV d, chV c] (sgL (drvS d c)) := by
  have hll := okLs_len ok
  refine go20 (AC.at (AC.look [false, false, false, true]) [1, 1, 1, 1, 0, 1, 0] (AC.at (AC.look [false, false, false, true]) [1, 1, 1, 1, 0, 1, 1] (AC.at AC.wk [1, 1, 1, 1, 1] A20))) rfl ?_
  have main : wpC Tryd.prog 0 (AC.sub [1, 1, 1, 1, 1] A20) (retQ [.tmp 4] (sgL (drvS d c))) ⟨mkF 53 [(2, .optr 3 0 1 0 0), (3, .optr 3 1 1 0 0), (5, .optr 1 2 1 0 0), (6, .fn (.func 33) [] [.optr 1 2 1 0 0]), (7, .d (.bool (onS d)))], r6 d c [(c.va, bit (onS d))]⟩ := by
    simp only [vx, vz, Nat.reduceAdd, Nat.reduceSub, Nat.reduceMul, Nat.reduceLeDiff, Nat.reduceLT, Nat.reduceEqDiff, Nat.reduceBEq, Int.reduceToNat, Int.reduceNeg, Int.reduceEq, Int.reduceNe, Int.reduceLE, Int.reduceLT, reduceCtorEq, ↓reduceIte, A20, ac20, AC.sub, AC.at, AC.look]
    refine loop_st (fun i : Nat => ⟨mkF 53 [(2, .optr 3 0 1 0 0), (3, .optr 3 1 1 0 0), (5, .optr 1 2 1 0 0), (6, .fn (.func 33) [] [.optr 1 2 1 0 0]), (7, .d (.bool (onS d))), (28, .d (.sl 1 (strs c.fs))), (29, .d (.int .i64 c.fs.length)), (30, .d (.int .i64 i))], r6 d c (drvG d (c.fs.take i) [(c.va, bit (onS d))])⟩) (fun i => i ≤ c.fs.length) (fun i => c.fs.length - i) 0 (weak_any (by simp only [vx, vz, Nat.reduceAdd, Nat.reduceSub, Nat.reduceMul, Nat.reduceLeDiff, Nat.reduceLT, Nat.reduceEqDiff, Nat.reduceBEq, Int.reduceToNat, Int.reduceNeg, Int.reduceEq, Int.reduceNe, Int.reduceLE, Int.reduceLT, reduceCtorEq, ↓reduceIte]; try trivial)) (by omega) (fun i hi => ?_)
    have hgl := drvG_len d (c.fs.take i) [(c.va, bit (onS d))]
    rw [List.length_take, List.length_cons, List.length_nil] at hgl
    simp only [vx, vz, Nat.reduceAdd, Nat.reduceSub, Nat.reduceMul, Nat.reduceLeDiff, Nat.reduceLT, Nat.reduceEqDiff, Nat.reduceBEq, Int.reduceToNat, Int.reduceNeg, Int.reduceEq, Int.reduceNe, Int.reduceLE, Int.reduceLT, reduceCtorEq, ↓reduceIte]
    refine cond_split (fun hcc => ?_) (fun hcc => ?_)
    · simp only [decide_eq_true_eq] at hcc
      obtain ⟨x, hx⟩ := get_ex (l := c.fs) (i := i) (by omega)
      have eg : drvG d (c.fs.take (i + 1)) [(c.va, bit (onS d))] = addS (drvG d (c.fs.take i) [(c.va, bit (onS d))]) x (fldS d x) := by rw [take_at hx, drvG_snoc]
      simp only [vx, vz, Nat.reduceAdd, Nat.reduceSub, Nat.reduceMul, Nat.reduceLeDiff, Nat.reduceLT, Nat.reduceEqDiff, Nat.reduceBEq, Int.reduceToNat, Int.reduceNeg, Int.reduceEq, Int.reduceNe, Int.reduceLE, Int.reduceLT, reduceCtorEq, ↓reduceIte]
      refine ⟨by omega, by omega, getM_at hx ?_⟩
      simp only [vx, vz, Nat.reduceAdd, Nat.reduceSub, Nat.reduceMul, Nat.reduceLeDiff, Nat.reduceLT, Nat.reduceEqDiff, Nat.reduceBEq, Int.reduceToNat, Int.reduceNeg, Int.reduceEq, Int.reduceNe, Int.reduceLE, Int.reduceLT, reduceCtorEq, ↓reduceIte]
      simp only [vx, vz, Nat.reduceAdd, Nat.reduceSub, Nat.reduceMul, Nat.reduceLeDiff, Nat.reduceLT, Nat.reduceEqDiff, Nat.reduceBEq, Int.reduceToNat, Int.reduceNeg, Int.reduceEq, Int.reduceNe, Int.reduceLE, Int.reduceLT, reduceCtorEq, ↓reduceIte, sD]
      have hfld : ∀ v, onS d = v → fldS d x = match nowS d with
        | some s => if v = true then (getS s.tx x).1 else 0
        | none => 0 := fun v hv => by rw [fldS, hv]
      cases hon : onS d with
      | true =>
        obtain ⟨j, s, hj, hs, hn, _, _⟩ := on_now hon
        have hjl := (List.getElem?_eq_some_iff.1 hs).1
        have hf : fldS d x = (getS s.tx x).1 := by rw [fldS, hn]; simp only; rw [if_pos hon]
        rw [hon, hf] at eg
        rw [hon] at hgl
        simp only [vx, vz, Nat.reduceAdd, Nat.reduceSub, Nat.reduceMul, Nat.reduceLeDiff, Nat.reduceLT, Nat.reduceEqDiff, Nat.reduceBEq, Int.reduceToNat, Int.reduceNeg, Int.reduceEq, Int.reduceNe, Int.reduceLE, Int.reduceLT, reduceCtorEq, ↓reduceIte, hj]
        refine ⟨by omega, by omega, getM_at hs ?_⟩
        simp only [vx, vz, Nat.reduceAdd, Nat.reduceSub, Nat.reduceMul, Nat.reduceLeDiff, Nat.reduceLT, Nat.reduceEqDiff, Nat.reduceBEq, Int.reduceToNat, Int.reduceNeg, Int.reduceEq, Int.reduceNe, Int.reduceLE, Int.reduceLT, reduceCtorEq, ↓reduceIte]
        simp only [vx, vz, Nat.reduceAdd, Nat.reduceSub, Nat.reduceMul, Nat.reduceLeDiff, Nat.reduceLT, Nat.reduceEqDiff, Nat.reduceBEq, Int.reduceToNat, Int.reduceNeg, Int.reduceEq, Int.reduceNe, Int.reduceLE, Int.reduceLT, reduceCtorEq, ↓reduceIte, Slo.d]
        refine call_p rfl (t36 s.tx x (okT_X (ok.2 s (List.mem_of_getElem? hs))).1) ?_
        simp only [vx, vz, Nat.reduceAdd, Nat.reduceSub, Nat.reduceMul, Nat.reduceLeDiff, Nat.reduceLT, Nat.reduceEqDiff, Nat.reduceBEq, Int.reduceToNat, Int.reduceNeg, Int.reduceEq, Int.reduceNe, Int.reduceLE, Int.reduceLT, reduceCtorEq, ↓reduceIte]
        rw [← hj]
        refine call_i (i33 _ x _ (by omega) fun T => ?_)
        simp only [vx, vz, Nat.reduceAdd, Nat.reduceSub, Nat.reduceMul, Nat.reduceLeDiff, Nat.reduceLT, Nat.reduceEqDiff, Nat.reduceBEq, Int.reduceToNat, Int.reduceNeg, Int.reduceEq, Int.reduceNe, Int.reduceLE, Int.reduceLT, reduceCtorEq, ↓reduceIte]
        refine ls_n (i + 1) (by omega) ?_ (by omega)
        simp only [hon, eg]
        refine Weak.trans (weak_any ?_) (weak6 (by rfl))
        simp only [vx, vz, Nat.reduceAdd, Nat.reduceSub, Nat.reduceMul, Nat.reduceLeDiff, Nat.reduceLT, Nat.reduceEqDiff, Nat.reduceBEq, Int.reduceToNat, Int.reduceNeg, Int.reduceEq, Int.reduceNe, Int.reduceLE, Int.reduceLT, reduceCtorEq, ↓reduceIte, hon]
        rw [wr_i64 (by omega) (by omega)]
        first | trivial | exact ⟨rfl, rfl⟩
      | false =>
        have hf : fldS d x = 0 := by
          rw [fldS]
          split
          · rw [hon, if_neg (by decide)]
          · rfl
        rw [hon, hf] at eg
        rw [hon] at hgl
        simp only [vx, vz, Nat.reduceAdd, Nat.reduceSub, Nat.reduceMul, Nat.reduceLeDiff, Nat.reduceLT, Nat.reduceEqDiff, Nat.reduceBEq, Int.reduceToNat, Int.reduceNeg, Int.reduceEq, Int.reduceNe, Int.reduceLE, Int.reduceLT, reduceCtorEq, ↓reduceIte]
        refine call_i (i33 _ x 0 (by omega) fun T => ?_)
        simp only [vx, vz, Nat.reduceAdd, Nat.reduceSub, Nat.reduceMul, Nat.reduceLeDiff, Nat.reduceLT, Nat.reduceEqDiff, Nat.reduceBEq, Int.reduceToNat, Int.reduceNeg, Int.reduceEq, Int.reduceNe, Int.reduceLE, Int.reduceLT, reduceCtorEq, ↓reduceIte]
        refine ls_n (i + 1) (by omega) ?_ (by omega)
        simp only [hon, eg]
        refine Weak.trans (weak_any ?_) (weak6 (by rfl))
        simp only [vx, vz, Nat.reduceAdd, Nat.reduceSub, Nat.reduceMul, Nat.reduceLeDiff, Nat.reduceLT, Nat.reduceEqDiff, Nat.reduceBEq, Int.reduceToNat, Int.reduceNeg, Int.reduceEq, Int.reduceNe, Int.reduceLE, Int.reduceLT, reduceCtorEq, ↓reduceIte, hon]
        rw [wr_i64 (by omega) (by omega)]
        first | trivial | exact ⟨rfl, rfl⟩
    · simp only [decide_eq_false_iff_not] at hcc
      rw [take_end (by omega)]
      simp only [vx, vz, Nat.reduceAdd, Nat.reduceSub, Nat.reduceMul, Nat.reduceLeDiff, Nat.reduceLT, Nat.reduceEqDiff, Nat.reduceBEq, Int.reduceToNat, Int.reduceNeg, Int.reduceEq, Int.reduceNe, Int.reduceLE, Int.reduceLT, reduceCtorEq, ↓reduceIte]
      exact sn_sg rfl
  have fin : ∀ {fr : List V} {x3 x4 : RowS} {T : Go.Vx.Rows}, fr.all (hB 6) = true → wkA fr (mkF 53 [(2, .optr 3 0 1 0 0), (3, .optr 3 1 1 0 0), (5, .optr 1 2 1 0 0), (6, .fn (.func 33) [] [.optr 1 2 1 0 0]), (7, .d (.bool (onS d)))]) → wpC Tryd.prog 0 (.wk (AC.sub [1, 1, 1, 1, 1] A20)) (retQ [.tmp 4] (sgL (drvS d c))) ⟨fr, rD d :: rC c :: .live 1 [[.osl 2 5 1 0 1]] :: x3 :: x4 :: sgR [(c.va, bit (onS d))] :: T⟩ := fun h1 h2 => wk_in _ (Weak.trans (weak6 (o := [(c.va, bit (onS d))]) h1) (weak_any h2)) main
  simp only [vx, vz, Nat.reduceAdd, Nat.reduceSub, Nat.reduceMul, Nat.reduceLeDiff, Nat.reduceLT, Nat.reduceEqDiff, Nat.reduceBEq, Int.reduceToNat, Int.reduceNeg, Int.reduceEq, Int.reduceNe, Int.reduceLE, Int.reduceLT, reduceCtorEq, ↓reduceIte, A20, ac20, AC.at, AC.look]
  refine call_p rfl (t11 d ok) ?_
  simp only [vx, vz, Nat.reduceAdd, Nat.reduceSub, Nat.reduceMul, Nat.reduceLeDiff, Nat.reduceLT, Nat.reduceEqDiff, Nat.reduceBEq, Int.reduceToNat, Int.reduceNeg, Int.reduceEq, Int.reduceNe, Int.reduceLE, Int.reduceLT, reduceCtorEq, ↓reduceIte]
  have hons : onS d = (vldD d && busS d) := rfl
  cases hv : vldD d with
  | false =>
    rw [hv, Bool.false_and] at hons
    simp only [vx, vz, Nat.reduceAdd, Nat.reduceSub, Nat.reduceMul, Nat.reduceLeDiff, Nat.reduceLT, Nat.reduceEqDiff, Nat.reduceBEq, Int.reduceToNat, Int.reduceNeg, Int.reduceEq, Int.reduceNe, Int.reduceLE, Int.reduceLT, reduceCtorEq, ↓reduceIte]
    refine call_i (i33n c.va 0 fun x3 x4 T => ?_)
    simp only [vx, vz, Nat.reduceAdd, Nat.reduceSub, Nat.reduceMul, Nat.reduceLeDiff, Nat.reduceLT, Nat.reduceEqDiff, Nat.reduceBEq, Int.reduceToNat, Int.reduceNeg, Int.reduceEq, Int.reduceNe, Int.reduceLE, Int.reduceLT, reduceCtorEq, ↓reduceIte]
    rw [show ((c.va, (0 : Int)) : Sg) = (c.va, bit (onS d)) by rw [hons]; rfl]
    exact fin (by rfl) (by simp only [vx, vz, Nat.reduceAdd, Nat.reduceSub, Nat.reduceMul, Nat.reduceLeDiff, Nat.reduceLT, Nat.reduceEqDiff, Nat.reduceBEq, Int.reduceToNat, Int.reduceNeg, Int.reduceEq, Int.reduceNe, Int.reduceLE, Int.reduceLT, reduceCtorEq, ↓reduceIte, hons]; try trivial)
  | true =>
    rw [hv, Bool.true_and] at hons
    simp only [vx, vz, Nat.reduceAdd, Nat.reduceSub, Nat.reduceMul, Nat.reduceLeDiff, Nat.reduceLT, Nat.reduceEqDiff, Nat.reduceBEq, Int.reduceToNat, Int.reduceNeg, Int.reduceEq, Int.reduceNe, Int.reduceLE, Int.reduceLT, reduceCtorEq, ↓reduceIte]
    refine call_p rfl (t27 d) ?_
    simp only [vx, vz, Nat.reduceAdd, Nat.reduceSub, Nat.reduceMul, Nat.reduceLeDiff, Nat.reduceLT, Nat.reduceEqDiff, Nat.reduceBEq, Int.reduceToNat, Int.reduceNeg, Int.reduceEq, Int.reduceNe, Int.reduceLE, Int.reduceLT, reduceCtorEq, ↓reduceIte]
    cases hb : busS d with
    | false =>
      rw [hb] at hons
      simp only [vx, vz, Nat.reduceAdd, Nat.reduceSub, Nat.reduceMul, Nat.reduceLeDiff, Nat.reduceLT, Nat.reduceEqDiff, Nat.reduceBEq, Int.reduceToNat, Int.reduceNeg, Int.reduceEq, Int.reduceNe, Int.reduceLE, Int.reduceLT, reduceCtorEq, ↓reduceIte]
      refine call_i (i33n c.va 0 fun x3 x4 T => ?_)
      simp only [vx, vz, Nat.reduceAdd, Nat.reduceSub, Nat.reduceMul, Nat.reduceLeDiff, Nat.reduceLT, Nat.reduceEqDiff, Nat.reduceBEq, Int.reduceToNat, Int.reduceNeg, Int.reduceEq, Int.reduceNe, Int.reduceLE, Int.reduceLT, reduceCtorEq, ↓reduceIte]
      rw [show ((c.va, (0 : Int)) : Sg) = (c.va, bit (onS d)) by rw [hons]; rfl]
      exact fin (by rfl) (by simp only [vx, vz, Nat.reduceAdd, Nat.reduceSub, Nat.reduceMul, Nat.reduceLeDiff, Nat.reduceLT, Nat.reduceEqDiff, Nat.reduceBEq, Int.reduceToNat, Int.reduceNeg, Int.reduceEq, Int.reduceNe, Int.reduceLE, Int.reduceLT, reduceCtorEq, ↓reduceIte, hons]; try trivial)
    | true =>
      rw [hb] at hons
      simp only [vx, vz, Nat.reduceAdd, Nat.reduceSub, Nat.reduceMul, Nat.reduceLeDiff, Nat.reduceLT, Nat.reduceEqDiff, Nat.reduceBEq, Int.reduceToNat, Int.reduceNeg, Int.reduceEq, Int.reduceNe, Int.reduceLE, Int.reduceLT, reduceCtorEq, ↓reduceIte]
      refine call_i (i33n c.va 1 fun x3 x4 T => ?_)
      simp only [vx, vz, Nat.reduceAdd, Nat.reduceSub, Nat.reduceMul, Nat.reduceLeDiff, Nat.reduceLT, Nat.reduceEqDiff, Nat.reduceBEq, Int.reduceToNat, Int.reduceNeg, Int.reduceEq, Int.reduceNe, Int.reduceLE, Int.reduceLT, reduceCtorEq, ↓reduceIte]
      rw [show ((c.va, (1 : Int)) : Sg) = (c.va, bit (onS d)) by rw [hons]; rfl]
      exact fin (by rfl) (by simp only [vx, vz, Nat.reduceAdd, Nat.reduceSub, Nat.reduceMul, Nat.reduceLeDiff, Nat.reduceLT, Nat.reduceEqDiff, Nat.reduceBEq, Int.reduceToNat, Int.reduceNeg, Int.reduceEq, Int.reduceNe, Int.reduceLE, Int.reduceLT, reduceCtorEq, ↓reduceIte, hons]; try trivial)
end Go.Proofs.Dr

namespace Go.Proofs.Dr
open Go.Vx
def T21 : AC := AC.sub [1, 1, 1, 1] ac21
theorem t21 (d : Dv) (c : Chn) (ok : okLs d.sl) (hc : c.fs.length ≤ 20000000) : CallP Tryd.prog 21 [dvV d, chV c] (sgL (drvS d c)) := by
  have hll := okLs_len ok
  refine go21 (AC.at AC.wk [1, 1, 1, 1] ac21) rfl ?_
  have main : wpC Tryd.prog 0 T21 (retQ [.tmp 4] (sgL (drvS d c))) ⟨mkF 59 [(2, .optr 3 0 1 0 0), (3, .optr 3 1 1 0 0), (5, .osl 2 2 1 0 1), (6, .d (.bool (onS d)))], [rD d, rC c, sgR [(c.va, bit (onS d))]]⟩ := by
    simp only [vx, vz, Nat.reduceAdd, Nat.reduceSub, Nat.reduceMul, Nat.reduceLeDiff, Nat.reduceLT, Nat.reduceEqDiff, Nat.reduceBEq, Int.reduceToNat, Int.reduceNeg, Int.reduceEq, Int.reduceNe, Int.reduceLE, Int.reduceLT, reduceCtorEq, ↓reduceIte, T21, ac21, AC.sub]
    refine loop_st (fun i : Nat => ⟨mkF 59 [(2, .optr 3 0 1 0 0), (3, .optr 3 1 1 0 0), (5, .osl 2 2 (drvG d (c.fs.take i) [(c.va, bit (onS d))]).length 0 (drvG d (c.fs.take i) [(c.va, bit (onS d))]).length), (6, .d (.bool (onS d))), (7, .d (.int .i64 i))], [rD d, rC c, sgR (drvG d (c.fs.take i) [(c.va, bit (onS d))])]⟩) (fun i => i ≤ c.fs.length) (fun i => c.fs.length - i) 0 (weak_any (by simp only [vx, vz, Nat.reduceAdd, Nat.reduceSub, Nat.reduceMul, Nat.reduceLeDiff, Nat.reduceLT, Nat.reduceEqDiff, Nat.reduceBEq, Int.reduceToNat, Int.reduceNeg, Int.reduceEq, Int.reduceNe, Int.reduceLE, Int.reduceLT, reduceCtorEq, ↓reduceIte]; try trivial)) (by omega) (fun i hi => ?_)
    have hgl := drvG_len d (c.fs.take i) [(c.va, bit (onS d))]
    rw [List.length_take, List.length_cons, List.length_nil] at hgl
    simp only [vx, vz, Nat.reduceAdd, Nat.reduceSub, Nat.reduceMul, Nat.reduceLeDiff, Nat.reduceLT, Nat.reduceEqDiff, Nat.reduceBEq, Int.reduceToNat, Int.reduceNeg, Int.reduceEq, Int.reduceNe, Int.reduceLE, Int.reduceLT, reduceCtorEq, ↓reduceIte]
    refine cond_split (fun hcc => ?_) (fun hcc => ?_)
    · simp only [decide_eq_true_eq] at hcc
      obtain ⟨x, hx⟩ := get_ex (l := c.fs) (i := i) (by omega)
      have eg : drvG d (c.fs.take (i + 1)) [(c.va, bit (onS d))] = addS (drvG d (c.fs.take i) [(c.va, bit (onS d))]) x (fldS d x) := by rw [take_at hx, drvG_snoc]
      obtain ⟨o, ho⟩ : ∃ o, drvG d (c.fs.take i) [(c.va, bit (onS d))] = o := ⟨_, rfl⟩
      rw [ho] at hgl eg ⊢
      simp only [vx, vz, Nat.reduceAdd, Nat.reduceSub, Nat.reduceMul, Nat.reduceLeDiff, Nat.reduceLT, Nat.reduceEqDiff, Nat.reduceBEq, Int.reduceToNat, Int.reduceNeg, Int.reduceEq, Int.reduceNe, Int.reduceLE, Int.reduceLT, reduceCtorEq, ↓reduceIte]
      refine ⟨by omega, by omega, getM_at hx ?_⟩
      simp only [vx, vz, Nat.reduceAdd, Nat.reduceSub, Nat.reduceMul, Nat.reduceLeDiff, Nat.reduceLT, Nat.reduceEqDiff, Nat.reduceBEq, Int.reduceToNat, Int.reduceNeg, Int.reduceEq, Int.reduceNe, Int.reduceLE, Int.reduceLT, reduceCtorEq, ↓reduceIte]
      simp only [vx, vz, Nat.reduceAdd, Nat.reduceSub, Nat.reduceMul, Nat.reduceLeDiff, Nat.reduceLT, Nat.reduceEqDiff, Nat.reduceBEq, Int.reduceToNat, Int.reduceNeg, Int.reduceEq, Int.reduceNe, Int.reduceLE, Int.reduceLT, reduceCtorEq, ↓reduceIte, sD]
      obtain ⟨k1, k2⟩ := snap_row (rows := [rD d, rC c, sgR o]) (h := 2) (sz := 2) (es := o.map sgD) (n := o.length) rfl (by simp)
      refine call_s (v := .d (.bool (hasS o x))) (fun y hy => ?_) rfl ?_ ?_
      · simp only [List.nil_append, List.append_nil, List.mem_cons, List.not_mem_nil, or_false] at hy
        rcases hy with rfl | rfl
        · exact k1
        · simp [snapOk, snapCOk, noH, noH1]
      · simp only [List.nil_append, List.append_nil, List.map_cons, List.map_nil, k2]
        exact t37 o x (by omega)
      simp only [vx, vz, Nat.reduceAdd, Nat.reduceSub, Nat.reduceMul, Nat.reduceLeDiff, Nat.reduceLT, Nat.reduceEqDiff, Nat.reduceBEq, Int.reduceToNat, Int.reduceNeg, Int.reduceEq, Int.reduceNe, Int.reduceLE, Int.reduceLT, reduceCtorEq, ↓reduceIte]
      cases hh : hasS o x with
      | true =>
        rw [addS, if_pos hh] at eg
        simp only [vx, vz, Nat.reduceAdd, Nat.reduceSub, Nat.reduceMul, Nat.reduceLeDiff, Nat.reduceLT, Nat.reduceEqDiff, Nat.reduceBEq, Int.reduceToNat, Int.reduceNeg, Int.reduceEq, Int.reduceNe, Int.reduceLE, Int.reduceLT, reduceCtorEq, ↓reduceIte]
        refine ls_n (i + 1) (by omega) ?_ (by omega)
        simp only [eg]
        refine weak_any ?_
        simp only [vx, vz, Nat.reduceAdd, Nat.reduceSub, Nat.reduceMul, Nat.reduceLeDiff, Nat.reduceLT, Nat.reduceEqDiff, Nat.reduceBEq, Int.reduceToNat, Int.reduceNeg, Int.reduceEq, Int.reduceNe, Int.reduceLE, Int.reduceLT, reduceCtorEq, ↓reduceIte]
        rw [wr_i64 (by omega) (by omega)]
        first | trivial | exact ⟨rfl, rfl⟩
      | false =>
        rw [addS, if_neg (by rw [hh]; decide)] at eg
        have hB3 : rowsB 3 [rD d, rC c] := by
          refine ⟨?_, ?_, trivial⟩
          · intro e he v hv; simp at he; subst he; simp at hv; rcases hv with rfl | rfl | rfl <;> rfl
          · intro e he v hv; simp at he; subst he; simp at hv; rcases hv with rfl | rfl | rfl <;> rfl
        have hlen : ((o.map sgD).map (·.map V.d)).length = o.length := by simp
        simp only [vx, vz, Nat.reduceAdd, Nat.reduceSub, Nat.reduceMul, Nat.reduceLeDiff, Nat.reduceLT, Nat.reduceEqDiff, Nat.reduceBEq, Int.reduceToNat, Int.reduceNeg, Int.reduceEq, Int.reduceNe, Int.reduceLE, Int.reduceLT, reduceCtorEq, ↓reduceIte]
        cases hon : onS d with
        | true =>
          obtain ⟨j, s, hj, hs, hn, _, _⟩ := on_now hon
          have hjl := (List.getElem?_eq_some_iff.1 hs).1
          have hf : fldS d x = (getS s.tx x).1 := by rw [fldS, hn]; simp only; rw [if_pos hon]
          rw [hf] at eg
          rw [hon] at eg
          simp only [vx, vz, Nat.reduceAdd, Nat.reduceSub, Nat.reduceMul, Nat.reduceLeDiff, Nat.reduceLT, Nat.reduceEqDiff, Nat.reduceBEq, Int.reduceToNat, Int.reduceNeg, Int.reduceEq, Int.reduceNe, Int.reduceLE, Int.reduceLT, reduceCtorEq, ↓reduceIte, hj]
          refine ⟨by omega, by omega, getM_at hs ?_⟩
          simp only [vx, vz, Nat.reduceAdd, Nat.reduceSub, Nat.reduceMul, Nat.reduceLeDiff, Nat.reduceLT, Nat.reduceEqDiff, Nat.reduceBEq, Int.reduceToNat, Int.reduceNeg, Int.reduceEq, Int.reduceNe, Int.reduceLE, Int.reduceLT, reduceCtorEq, ↓reduceIte]
          simp only [vx, vz, Nat.reduceAdd, Nat.reduceSub, Nat.reduceMul, Nat.reduceLeDiff, Nat.reduceLT, Nat.reduceEqDiff, Nat.reduceBEq, Int.reduceToNat, Int.reduceNeg, Int.reduceEq, Int.reduceNe, Int.reduceLE, Int.reduceLT, reduceCtorEq, ↓reduceIte, Slo.d]
          refine call_p rfl (t38 s.tx x (okT_X (ok.2 s (List.mem_of_getElem? hs))).1) ?_
          simp only [vx, vz, Nat.reduceAdd, Nat.reduceSub, Nat.reduceMul, Nat.reduceLeDiff, Nat.reduceLT, Nat.reduceEqDiff, Nat.reduceBEq, Int.reduceToNat, Int.reduceNeg, Int.reduceEq, Int.reduceNe, Int.reduceLE, Int.reduceLT, reduceCtorEq, ↓reduceIte]
          refine ⟨by rw [mxB]; omega, ?_⟩
          refine ls_n (i + 1) (by omega) ?_ (by omega)
          simp only [hon, eg]
          rw [← hj]
          refine Weak.trans (weak_any ?_) (weak_frz2 3 (by omega) ⟨.same _ hB3.1, .same _ hB3.2.1, ?_, trivial⟩ (kpL_refl ?_))
          · simp only [vx, vz, Nat.reduceAdd, Nat.reduceSub, Nat.reduceMul, Nat.reduceLeDiff, Nat.reduceLT, Nat.reduceEqDiff, Nat.reduceBEq, Int.reduceToNat, Int.reduceNeg, Int.reduceEq, Int.reduceNe, Int.reduceLE, Int.reduceLT, reduceCtorEq, ↓reduceIte, hon]
            rw [wr_i64 (by omega) (by omega)]
            first | trivial | exact ⟨rfl, rfl⟩
          · show RowK _ _ _ (.live 2 (((o ++ [(x, (getS s.tx x).1)]).map sgD).map (·.map .d)))
            rw [List.map_append]
            exact rowK_snoc (x := sgD (x, (getS s.tx x).1)) ⟨.same _ rfl, .same _ rfl, trivial⟩
          · rfl
        | false =>
          have hf : fldS d x = 0 := by
            rw [fldS]
            split
            · rw [hon, if_neg (by decide)]
            · rfl
          rw [hf, hon] at eg
          simp only [vx, vz, Nat.reduceAdd, Nat.reduceSub, Nat.reduceMul, Nat.reduceLeDiff, Nat.reduceLT, Nat.reduceEqDiff, Nat.reduceBEq, Int.reduceToNat, Int.reduceNeg, Int.reduceEq, Int.reduceNe, Int.reduceLE, Int.reduceLT, reduceCtorEq, ↓reduceIte]
          refine ⟨by rw [mxB]; omega, ?_⟩
          refine ls_n (i + 1) (by omega) ?_ (by omega)
          simp only [hon, eg]
          refine Weak.trans (weak_any ?_) (weak_frz2 3 (by omega) ⟨.same _ hB3.1, .same _ hB3.2.1, ?_, trivial⟩ (kpL_refl ?_))
          · simp only [vx, vz, Nat.reduceAdd, Nat.reduceSub, Nat.reduceMul, Nat.reduceLeDiff, Nat.reduceLT, Nat.reduceEqDiff, Nat.reduceBEq, Int.reduceToNat, Int.reduceNeg, Int.reduceEq, Int.reduceNe, Int.reduceLE, Int.reduceLT, reduceCtorEq, ↓reduceIte, hon]
            rw [wr_i64 (by omega) (by omega)]
            first | trivial | exact ⟨rfl, rfl⟩
          · show RowK _ _ _ (.live 2 (((o ++ [(x, (0 : Int))]).map sgD).map (·.map .d)))
            rw [List.map_append]
            exact rowK_snoc (x := sgD (x, (0 : Int))) ⟨.same _ rfl, .same _ rfl, trivial⟩
          · rfl
    · simp only [decide_eq_false_iff_not] at hcc
      rw [take_end (by omega)]
      simp only [vx, vz, Nat.reduceAdd, Nat.reduceSub, Nat.reduceMul, Nat.reduceLeDiff, Nat.reduceLT, Nat.reduceEqDiff, Nat.reduceBEq, Int.reduceToNat, Int.reduceNeg, Int.reduceEq, Int.reduceNe, Int.reduceLE, Int.reduceLT, reduceCtorEq, ↓reduceIte]
      exact sn_sg rfl
  simp only [vx, vz, Nat.reduceAdd, Nat.reduceSub, Nat.reduceMul, Nat.reduceLeDiff, Nat.reduceLT, Nat.reduceEqDiff, Nat.reduceBEq, Int.reduceToNat, Int.reduceNeg, Int.reduceEq, Int.reduceNe, Int.reduceLE, Int.reduceLT, reduceCtorEq, ↓reduceIte, ac21, AC.at]
  refine call_p rfl (t12 d ok) ?_
  simp only [vx, vz, Nat.reduceAdd, Nat.reduceSub, Nat.reduceMul, Nat.reduceLeDiff, Nat.reduceLT, Nat.reduceEqDiff, Nat.reduceBEq, Int.reduceToNat, Int.reduceNeg, Int.reduceEq, Int.reduceNe, Int.reduceLE, Int.reduceLT, reduceCtorEq, ↓reduceIte]
  have hons : onS d = (vldD d && busS d) := rfl
  have hT : AC.sub [1, 1, 1, 1] ac21 = T21 := rfl
  cases hv : vldD d with
  | false =>
    rw [hv, Bool.false_and] at hons
    simp only [vx, vz, Nat.reduceAdd, Nat.reduceSub, Nat.reduceMul, Nat.reduceLeDiff, Nat.reduceLT, Nat.reduceEqDiff, Nat.reduceBEq, Int.reduceToNat, Int.reduceNeg, Int.reduceEq, Int.reduceNe, Int.reduceLE, Int.reduceLT, reduceCtorEq, ↓reduceIte]
    refine wk_in _ ?_ main
    rw [hons]
    exact weak_any (by simp only [vx, vz, Nat.reduceAdd, Nat.reduceSub, Nat.reduceMul, Nat.reduceLeDiff, Nat.reduceLT, Nat.reduceEqDiff, Nat.reduceBEq, Int.reduceToNat, Int.reduceNeg, Int.reduceEq, Int.reduceNe, Int.reduceLE, Int.reduceLT, reduceCtorEq, ↓reduceIte]; try trivial)
  | true =>
    rw [hv, Bool.true_and] at hons
    simp only [vx, vz, Nat.reduceAdd, Nat.reduceSub, Nat.reduceMul, Nat.reduceLeDiff, Nat.reduceLT, Nat.reduceEqDiff, Nat.reduceBEq, Int.reduceToNat, Int.reduceNeg, Int.reduceEq, Int.reduceNe, Int.reduceLE, Int.reduceLT, reduceCtorEq, ↓reduceIte]
    refine call_p rfl (t31 d) ?_
    simp only [vx, vz, Nat.reduceAdd, Nat.reduceSub, Nat.reduceMul, Nat.reduceLeDiff, Nat.reduceLT, Nat.reduceEqDiff, Nat.reduceBEq, Int.reduceToNat, Int.reduceNeg, Int.reduceEq, Int.reduceNe, Int.reduceLE, Int.reduceLT, reduceCtorEq, ↓reduceIte]
    cases hb : busS d with
    | false =>
      rw [hb] at hons
      simp only [vx, vz, Nat.reduceAdd, Nat.reduceSub, Nat.reduceMul, Nat.reduceLeDiff, Nat.reduceLT, Nat.reduceEqDiff, Nat.reduceBEq, Int.reduceToNat, Int.reduceNeg, Int.reduceEq, Int.reduceNe, Int.reduceLE, Int.reduceLT, reduceCtorEq, ↓reduceIte]
      refine wk_in _ ?_ main
      rw [hons]
      exact weak_any (by simp only [vx, vz, Nat.reduceAdd, Nat.reduceSub, Nat.reduceMul, Nat.reduceLeDiff, Nat.reduceLT, Nat.reduceEqDiff, Nat.reduceBEq, Int.reduceToNat, Int.reduceNeg, Int.reduceEq, Int.reduceNe, Int.reduceLE, Int.reduceLT, reduceCtorEq, ↓reduceIte]; try trivial)
    | true =>
      rw [hb] at hons
      simp only [vx, vz, Nat.reduceAdd, Nat.reduceSub, Nat.reduceMul, Nat.reduceLeDiff, Nat.reduceLT, Nat.reduceEqDiff, Nat.reduceBEq, Int.reduceToNat, Int.reduceNeg, Int.reduceEq, Int.reduceNe, Int.reduceLE, Int.reduceLT, reduceCtorEq, ↓reduceIte]
      refine wk_in _ ?_ main
      rw [hons]
      exact weak_any (by simp only [vx, vz, Nat.reduceAdd, Nat.reduceSub, Nat.reduceMul, Nat.reduceLeDiff, Nat.reduceLT, Nat.reduceEqDiff, Nat.reduceBEq, Int.reduceToNat, Int.reduceNeg, Int.reduceEq, Int.reduceNe, Int.reduceLE, Int.reduceLT, reduceCtorEq, ↓reduceIte]; try trivial)
theorem t19 (l : List Sg) (hl : l.length ≤ 40000000) : CallP Tryd.prog 19 [sgL l, sgL l] (.d (.bool true)) := by
  refine go19 ac19 rfl ?_
  simp only [vx, vz, Nat.reduceAdd, Nat.reduceSub, Nat.reduceMul, Nat.reduceLeDiff, Nat.reduceLT, Nat.reduceEqDiff, Nat.reduceBEq, Int.reduceToNat, Int.reduceNeg, Int.reduceEq, Int.reduceNe, Int.reduceLE, Int.reduceLT, reduceCtorEq, ↓reduceIte, ac19]
  refine loop_st (fun i : Nat => ⟨mkF 26 [(0, sgL l), (1, sgL l), (5, .d (.int .i64 i))], []⟩) (fun i => i ≤ l.length) (fun i => l.length - i) 0 (weak_any (by simp only [vx, vz, Nat.reduceAdd, Nat.reduceSub, Nat.reduceMul, Nat.reduceLeDiff, Nat.reduceLT, Nat.reduceEqDiff, Nat.reduceBEq, Int.reduceToNat, Int.reduceNeg, Int.reduceEq, Int.reduceNe, Int.reduceLE, Int.reduceLT, reduceCtorEq, ↓reduceIte]; try trivial)) (by omega) (fun i hi => ?_)
  simp only [vx, vz, Nat.reduceAdd, Nat.reduceSub, Nat.reduceMul, Nat.reduceLeDiff, Nat.reduceLT, Nat.reduceEqDiff, Nat.reduceBEq, Int.reduceToNat, Int.reduceNeg, Int.reduceEq, Int.reduceNe, Int.reduceLE, Int.reduceLT, reduceCtorEq, ↓reduceIte]
  refine cond_split (fun hc => ?_) (fun hc => ?_)
  · simp only [decide_eq_true_eq] at hc
    obtain ⟨x, hx⟩ := get_ex (l := l) (i := i) (by omega)
    simp only [vx, vz, Nat.reduceAdd, Nat.reduceSub, Nat.reduceMul, Nat.reduceLeDiff, Nat.reduceLT, Nat.reduceEqDiff, Nat.reduceBEq, Int.reduceToNat, Int.reduceNeg, Int.reduceEq, Int.reduceNe, Int.reduceLE, Int.reduceLT, reduceCtorEq, ↓reduceIte]
    refine c_quiet rfl ?_
    simp only [vx, vz, Nat.reduceAdd, Nat.reduceSub, Nat.reduceMul, Nat.reduceLeDiff, Nat.reduceLT, Nat.reduceEqDiff, Nat.reduceBEq, Int.reduceToNat, Int.reduceNeg, Int.reduceEq, Int.reduceNe, Int.reduceLE, Int.reduceLT, reduceCtorEq, ↓reduceIte]
    refine ⟨by omega, by omega, getM_at hx ?_⟩
    simp only [vx, vz, Nat.reduceAdd, Nat.reduceSub, Nat.reduceMul, Nat.reduceLeDiff, Nat.reduceLT, Nat.reduceEqDiff, Nat.reduceBEq, Int.reduceToNat, Int.reduceNeg, Int.reduceEq, Int.reduceNe, Int.reduceLE, Int.reduceLT, reduceCtorEq, ↓reduceIte]
    simp only [vx, vz, Nat.reduceAdd, Nat.reduceSub, Nat.reduceMul, Nat.reduceLeDiff, Nat.reduceLT, Nat.reduceEqDiff, Nat.reduceBEq, Int.reduceToNat, Int.reduceNeg, Int.reduceEq, Int.reduceNe, Int.reduceLE, Int.reduceLT, reduceCtorEq, ↓reduceIte, sgD]
    refine ⟨by omega, by omega, getM_at hx ?_⟩
    simp only [vx, vz, Nat.reduceAdd, Nat.reduceSub, Nat.reduceMul, Nat.reduceLeDiff, Nat.reduceLT, Nat.reduceEqDiff, Nat.reduceBEq, Int.reduceToNat, Int.reduceNeg, Int.reduceEq, Int.reduceNe, Int.reduceLE, Int.reduceLT, reduceCtorEq, ↓reduceIte]
    simp only [vx, vz, Nat.reduceAdd, Nat.reduceSub, Nat.reduceMul, Nat.reduceLeDiff, Nat.reduceLT, Nat.reduceEqDiff, Nat.reduceBEq, Int.reduceToNat, Int.reduceNeg, Int.reduceEq, Int.reduceNe, Int.reduceLE, Int.reduceLT, reduceCtorEq, ↓reduceIte, sgD]
    refine ls_n (i + 1) (by omega) (weak_any ?_) (by omega)
    simp only [vx, vz, Nat.reduceAdd, Nat.reduceSub, Nat.reduceMul, Nat.reduceLeDiff, Nat.reduceLT, Nat.reduceEqDiff, Nat.reduceBEq, Int.reduceToNat, Int.reduceNeg, Int.reduceEq, Int.reduceNe, Int.reduceLE, Int.reduceLT, reduceCtorEq, ↓reduceIte]
    rw [wr_i64 (by omega) (by omega)]
    first | trivial | exact ⟨rfl, rfl⟩
  · simp only [vx, vz, Nat.reduceAdd, Nat.reduceSub, Nat.reduceMul, Nat.reduceLeDiff, Nat.reduceLT, Nat.reduceEqDiff, Nat.reduceBEq, Int.reduceToNat, Int.reduceNeg, Int.reduceEq, Int.reduceNe, Int.reduceLE, Int.reduceLT, reduceCtorEq, ↓reduceIte]
theorem t9 (d : Dv) (ok : okLs d.sl) : CallP Tryd.prog 9 [dvV d, dvV d] (.d (.bool true)) := by
  have hll := okLs_len ok
  refine go9 ac9 rfl ?_
  simp only [vx, vz, Nat.reduceAdd, Nat.reduceSub, Nat.reduceMul, Nat.reduceLeDiff, Nat.reduceLT, Nat.reduceEqDiff, Nat.reduceBEq, Int.reduceToNat, Int.reduceNeg, Int.reduceEq, Int.reduceNe, Int.reduceLE, Int.reduceLT, reduceCtorEq, ↓reduceIte, ac9]
  refine loop_st (fun i : Nat => ⟨mkF 66 [(2, .optr 3 0 1 0 0), (3, .optr 3 1 1 0 0), (5, .d (.int .i64 i))], [rD d, rD d]⟩) (fun i => i ≤ d.sl.length) (fun i => d.sl.length - i) 0 (weak_any (by simp only [vx, vz, Nat.reduceAdd, Nat.reduceSub, Nat.reduceMul, Nat.reduceLeDiff, Nat.reduceLT, Nat.reduceEqDiff, Nat.reduceBEq, Int.reduceToNat, Int.reduceNeg, Int.reduceEq, Int.reduceNe, Int.reduceLE, Int.reduceLT, reduceCtorEq, ↓reduceIte]; try trivial)) (by omega) (fun i hi => ?_)
  simp only [vx, vz, Nat.reduceAdd, Nat.reduceSub, Nat.reduceMul, Nat.reduceLeDiff, Nat.reduceLT, Nat.reduceEqDiff, Nat.reduceBEq, Int.reduceToNat, Int.reduceNeg, Int.reduceEq, Int.reduceNe, Int.reduceLE, Int.reduceLT, reduceCtorEq, ↓reduceIte]
  refine cond_split (fun hc => ?_) (fun hc => ?_)
  · simp only [decide_eq_true_eq] at hc
    obtain ⟨x, hx⟩ := get_ex (l := d.sl) (i := i) (by omega)
    have okx := okT_X (ok.2 x (List.mem_of_getElem? hx))
    have hBd : rowB 2 (rD d) := by intro e he v hv; simp at he; subst he; simp at hv; rcases hv with rfl | rfl | rfl <;> rfl
    simp only [vx, vz, Nat.reduceAdd, Nat.reduceSub, Nat.reduceMul, Nat.reduceLeDiff, Nat.reduceLT, Nat.reduceEqDiff, Nat.reduceBEq, Int.reduceToNat, Int.reduceNeg, Int.reduceEq, Int.reduceNe, Int.reduceLE, Int.reduceLT, reduceCtorEq, ↓reduceIte]
    refine c_draw ?_
    simp only [vx, vz, Nat.reduceAdd, Nat.reduceSub, Nat.reduceMul, Nat.reduceLeDiff, Nat.reduceLT, Nat.reduceEqDiff, Nat.reduceBEq, Int.reduceToNat, Int.reduceNeg, Int.reduceEq, Int.reduceNe, Int.reduceLE, Int.reduceLT, reduceCtorEq, ↓reduceIte]
    repeat (refine d_k rfl rfl ?_; simp only [vx, vz, Nat.reduceAdd, Nat.reduceSub, Nat.reduceMul, Nat.reduceLeDiff, Nat.reduceLT, Nat.reduceEqDiff, Nat.reduceBEq, Int.reduceToNat, Int.reduceNeg, Int.reduceEq, Int.reduceNe, Int.reduceLE, Int.reduceLT, reduceCtorEq, ↓reduceIte])
    refine ⟨by omega, by omega, getM_nat hx ?_⟩
    simp only [vx, vz, Nat.reduceAdd, Nat.reduceSub, Nat.reduceMul, Nat.reduceLeDiff, Nat.reduceLT, Nat.reduceEqDiff, Nat.reduceBEq, Int.reduceToNat, Int.reduceNeg, Int.reduceEq, Int.reduceNe, Int.reduceLE, Int.reduceLT, reduceCtorEq, ↓reduceIte, Slo.d]
    repeat (refine d_k rfl rfl ?_; simp only [vx, vz, Nat.reduceAdd, Nat.reduceSub, Nat.reduceMul, Nat.reduceLeDiff, Nat.reduceLT, Nat.reduceEqDiff, Nat.reduceBEq, Int.reduceToNat, Int.reduceNeg, Int.reduceEq, Int.reduceNe, Int.reduceLE, Int.reduceLT, reduceCtorEq, ↓reduceIte, Slo.d])
    refine ⟨by omega, by omega, getM_nat hx ?_⟩
    simp only [vx, vz, Nat.reduceAdd, Nat.reduceSub, Nat.reduceMul, Nat.reduceLeDiff, Nat.reduceLT, Nat.reduceEqDiff, Nat.reduceBEq, Int.reduceToNat, Int.reduceNeg, Int.reduceEq, Int.reduceNe, Int.reduceLE, Int.reduceLT, reduceCtorEq, ↓reduceIte, Slo.d]
    repeat (refine d_k rfl rfl ?_; simp only [vx, vz, Nat.reduceAdd, Nat.reduceSub, Nat.reduceMul, Nat.reduceLeDiff, Nat.reduceLT, Nat.reduceEqDiff, Nat.reduceBEq, Int.reduceToNat, Int.reduceNeg, Int.reduceEq, Int.reduceNe, Int.reduceLE, Int.reduceLT, reduceCtorEq, ↓reduceIte, Slo.d])
    refine call_p rfl (t26 x.tx okx.1 okx.2.1) ?_
    simp only [vx, vz, Nat.reduceAdd, Nat.reduceSub, Nat.reduceMul, Nat.reduceLeDiff, Nat.reduceLT, Nat.reduceEqDiff, Nat.reduceBEq, Int.reduceToNat, Int.reduceNeg, Int.reduceEq, Int.reduceNe, Int.reduceLE, Int.reduceLT, reduceCtorEq, ↓reduceIte]
    refine ls_n (i + 1) (by omega) (Weak.trans (weak_any ?_) (weak_frzA (A := [rD d, rD d]) (Nat.zero_le _) ⟨.same _ hBd, .same _ hBd, trivial⟩ (kpL_refl ?_))) (by omega)
    · simp only [vx, vz, Nat.reduceAdd, Nat.reduceSub, Nat.reduceMul, Nat.reduceLeDiff, Nat.reduceLT, Nat.reduceEqDiff, Nat.reduceBEq, Int.reduceToNat, Int.reduceNeg, Int.reduceEq, Int.reduceNe, Int.reduceLE, Int.reduceLT, reduceCtorEq, ↓reduceIte]
      rw [wr_i64 (by omega) (by omega)]
      first | trivial | exact ⟨rfl, rfl⟩
    · rfl
  · simp only [vx, vz, Nat.reduceAdd, Nat.reduceSub, Nat.reduceMul, Nat.reduceLeDiff, Nat.reduceLT, Nat.reduceEqDiff, Nat.reduceBEq, Int.reduceToNat, Int.reduceNeg, Int.reduceEq, Int.reduceNe, Int.reduceLE, Int.reduceLT, reduceCtorEq, ↓reduceIte]
end Go.Proofs.Dr
