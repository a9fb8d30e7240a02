import Derived.Test.YtfoncpamepepmaaU
import Derived.Test.YtfoncpamepepmaaE1
set_option linter.unusedSimpArgs false
set_option linter.unusedVariables false
namespace Go.Proofs.Ar
open Go.Vx
theorem te_u64 {n : Nat} {ys : List D} (h : TyE Try.prog n 39 ys) : ∃ x : W, ys = [.int .u64 (x.toNat : Int)] := by
  obtain ⟨i, rfl, hw⟩ := te_int Try.underlying39 h
  have := lit_u64 hw
  refine ⟨BitVec.ofNat 64 i.toNat, ?_⟩
  rw [BitVec.toNat_ofNat, Nat.mod_eq_of_lt (by omega)]
  congr 2; omega
theorem te_rng {n : Nat} {ys : List D} (h : TyE Try.prog n 41 ys) : ∃ p : W × W, ys = [.int .u64 (p.1.toNat : Int), .int .u64 (p.2.toNat : Int)] ∧ True := by
  obtain ⟨m, a, b, rfl, h1, h2⟩ := te_struct2 Try.underlying41 h
  obtain ⟨x, rfl⟩ := te_u64 h1
  obtain ⟨y, rfl⟩ := te_u64 h2
  exact ⟨(x, y), rfl, trivial⟩
theorem lot_mem {ws : List Int} {k : W} {P : Sl → Prop} : ∀ (n : Nat) (c : W) (ls : List (List Sl)), (∀ s ∈ ls, ∀ x ∈ s, P x) → (lotS ws k n c ls).length ≤ n ∧ ∀ x ∈ lotS ws k n c ls, P x := by
  intro n
  induction n with
  | zero => intro c ls _; simp [lotS]
  | succ n ih =>
    intro c ls h
    rw [lotS]
    split
    · split
      · next x s hx =>
        have hm := List.mem_of_getElem? hx
        obtain ⟨h1, h2⟩ := ih (Rg.belC k c (Rg.tot (nowS ls ws))) (ls.set (pick k c ls ws) s) (fun t ht y hy => by
          rcases List.mem_or_eq_of_mem_set ht with ht | rfl
          · exact h t ht y hy
          · exact h _ hm y (by simp [hy]))
        refine ⟨by simp only [List.length_cons]; omega, fun y hy => ?_⟩
        rcases List.mem_cons.1 hy with rfl | hy
        · exact h _ hm _ (by simp)
        · exact h2 y hy
      · simp
    · simp
theorem lotR_ok {ws : List Int} {k c : W} {l : List (List Sl)} (hl : okL l) : (lotR ws k c l).length ≤ 400 ∧ (∀ x ∈ lotR ws k c l, okS x) ∧ onlyS (lotR ws k c l) = lotR ws k c l := by
  have h1 := lot_mem (ws := ws) (k := k) (P := okS) (tot (onl l)) c (onl l) (onlO hl)
  have h2 := lot_mem (ws := ws) (k := k) (P := fun x => x.1 = false) (tot (onl l)) c (onl l) (fun s hs x hx => by
    obtain ⟨t, ht, rfl⟩ := List.mem_map.1 hs
    have := (List.mem_filter.1 hx).2
    simpa using this)
  have h3 := tot_le20 (onl l) (onl20 hl)
  have h4 : (onl l).length = l.length := by simp [onl]
  have h5 := hl.1
  refine ⟨Nat.le_trans h1.1 (by omega), h1.2, ?_⟩
  exact List.filter_eq_self.2 fun x hx => by simp [h2.2 x hx]
theorem l7 (l : List (List Sl)) (ws : List Int) (k c : W) (ok : okA l) (hws : ws.length ≤ maxLen) : CallP Try.prog 7 [llV l, .d (.sl 1 (ws.map iD)), .agg [.d (.int .u64 (k.toNat : Int)), .d (.int .u64 (c.toNat : Int))]] (.d (.bool true)) := by
  refine go7 ac7 rfl ?_
  simp only [vx, vz, Nat.reduceAdd, Nat.reduceSub, Nat.reduceMul, Nat.reduceLeDiff, Nat.reduceLT, Nat.reduceEqDiff, Nat.reduceBEq, Int.reduceToNat, Int.reduceNeg, Int.reduceEq, Int.reduceNe, Int.reduceLE, Int.reduceLT, reduceCtorEq, ↓reduceIte, ac7]
  refine call_p rfl (t9 l ok) ?_
  simp only [vx, vz, Nat.reduceAdd, Nat.reduceSub, Nat.reduceMul, Nat.reduceLeDiff, Nat.reduceLT, Nat.reduceEqDiff, Nat.reduceBEq, Int.reduceToNat, Int.reduceNeg, Int.reduceEq, Int.reduceNe, Int.reduceLE, Int.reduceLT, reduceCtorEq, ↓reduceIte]
  cases hf : fewS l with
  | false =>
    simp only [vx, vz, Nat.reduceAdd, Nat.reduceSub, Nat.reduceMul, Nat.reduceLeDiff, Nat.reduceLT, Nat.reduceEqDiff, Nat.reduceBEq, Int.reduceToNat, Int.reduceNeg, Int.reduceEq, Int.reduceNe, Int.reduceLE, Int.reduceLT, reduceCtorEq, ↓reduceIte]
    refine call_p rfl (t10) ?_
    simp only [vx, vz, Nat.reduceAdd, Nat.reduceSub, Nat.reduceMul, Nat.reduceLeDiff, Nat.reduceLT, Nat.reduceEqDiff, Nat.reduceBEq, Int.reduceToNat, Int.reduceNeg, Int.reduceEq, Int.reduceNe, Int.reduceLE, Int.reduceLT, reduceCtorEq, ↓reduceIte]
  | true =>
    obtain ⟨hl, hl8⟩ := few_ok hf
    by_cases h12 : 12 < (ws.length : Int)
    · simp only [vx, vz, Nat.reduceAdd, Nat.reduceSub, Nat.reduceMul, Nat.reduceLeDiff, Nat.reduceLT, Nat.reduceEqDiff, Nat.reduceBEq, Int.reduceToNat, Int.reduceNeg, Int.reduceEq, Int.reduceNe, Int.reduceLE, Int.reduceLT, reduceCtorEq, ↓reduceIte, dt h12]
      refine call_p rfl (t10) ?_
      simp only [vx, vz, Nat.reduceAdd, Nat.reduceSub, Nat.reduceMul, Nat.reduceLeDiff, Nat.reduceLT, Nat.reduceEqDiff, Nat.reduceBEq, Int.reduceToNat, Int.reduceNeg, Int.reduceEq, Int.reduceNe, Int.reduceLE, Int.reduceLT, reduceCtorEq, ↓reduceIte]
    · obtain ⟨h1, h2, h3⟩ := lotR_ok (ws := ws) (k := k) (c := c) hl
      have h23 := t23 ws k c l hl hws
      have h24 := t24 ws k c l hl hws
      have h17 := t17 (lotR ws k c l) (by omega)
      rw [h3] at h17
      cases hv : vld ws l.length with
      | true =>
        rw [lotV, hv, if_pos rfl] at h23 h24
        simp only [vx, vz, Nat.reduceAdd, Nat.reduceSub, Nat.reduceMul, Nat.reduceLeDiff, Nat.reduceLT, Nat.reduceEqDiff, Nat.reduceBEq, Int.reduceToNat, Int.reduceNeg, Int.reduceEq, Int.reduceNe, Int.reduceLE, Int.reduceLT, reduceCtorEq, ↓reduceIte, df h12]
        refine call_p rfl (h23) ?_
        simp only [vx, vz, Nat.reduceAdd, Nat.reduceSub, Nat.reduceMul, Nat.reduceLeDiff, Nat.reduceLT, Nat.reduceEqDiff, Nat.reduceBEq, Int.reduceToNat, Int.reduceNeg, Int.reduceEq, Int.reduceNe, Int.reduceLE, Int.reduceLT, reduceCtorEq, ↓reduceIte]
        refine call_p rfl (h24) ?_
        simp only [vx, vz, Nat.reduceAdd, Nat.reduceSub, Nat.reduceMul, Nat.reduceLeDiff, Nat.reduceLT, Nat.reduceEqDiff, Nat.reduceBEq, Int.reduceToNat, Int.reduceNeg, Int.reduceEq, Int.reduceNe, Int.reduceLE, Int.reduceLT, reduceCtorEq, ↓reduceIte]
        refine call_p rfl (t12 (lotR ws k c l) (by omega) h2) ?_
        simp only [vx, vz, Nat.reduceAdd, Nat.reduceSub, Nat.reduceMul, Nat.reduceLeDiff, Nat.reduceLT, Nat.reduceEqDiff, Nat.reduceBEq, Int.reduceToNat, Int.reduceNeg, Int.reduceEq, Int.reduceNe, Int.reduceLE, Int.reduceLT, reduceCtorEq, ↓reduceIte]
        refine call_p rfl (h17) ?_
        simp only [vx, vz, Nat.reduceAdd, Nat.reduceSub, Nat.reduceMul, Nat.reduceLeDiff, Nat.reduceLT, Nat.reduceEqDiff, Nat.reduceBEq, Int.reduceToNat, Int.reduceNeg, Int.reduceEq, Int.reduceNe, Int.reduceLE, Int.reduceLT, reduceCtorEq, ↓reduceIte]
        refine call_p rfl (t10) ?_
        simp only [vx, vz, Nat.reduceAdd, Nat.reduceSub, Nat.reduceMul, Nat.reduceLeDiff, Nat.reduceLT, Nat.reduceEqDiff, Nat.reduceBEq, Int.reduceToNat, Int.reduceNeg, Int.reduceEq, Int.reduceNe, Int.reduceLE, Int.reduceLT, reduceCtorEq, ↓reduceIte]
      | false =>
        rw [lotV, hv, if_neg (by decide)] at h23 h24
        simp only [vx, vz, Nat.reduceAdd, Nat.reduceSub, Nat.reduceMul, Nat.reduceLeDiff, Nat.reduceLT, Nat.reduceEqDiff, Nat.reduceBEq, Int.reduceToNat, Int.reduceNeg, Int.reduceEq, Int.reduceNe, Int.reduceLE, Int.reduceLT, reduceCtorEq, ↓reduceIte, df h12]
        refine call_p rfl (h23) ?_
        simp only [vx, vz, Nat.reduceAdd, Nat.reduceSub, Nat.reduceMul, Nat.reduceLeDiff, Nat.reduceLT, Nat.reduceEqDiff, Nat.reduceBEq, Int.reduceToNat, Int.reduceNeg, Int.reduceEq, Int.reduceNe, Int.reduceLE, Int.reduceLT, reduceCtorEq, ↓reduceIte]
        refine call_p rfl (h24) ?_
        simp only [vx, vz, Nat.reduceAdd, Nat.reduceSub, Nat.reduceMul, Nat.reduceLeDiff, Nat.reduceLT, Nat.reduceEqDiff, Nat.reduceBEq, Int.reduceToNat, Int.reduceNeg, Int.reduceEq, Int.reduceNe, Int.reduceLE, Int.reduceLT, reduceCtorEq, ↓reduceIte]
        refine call_p rfl (t12 [] (by decide) (by simp)) ?_
        simp only [vx, vz, Nat.reduceAdd, Nat.reduceSub, Nat.reduceMul, Nat.reduceLeDiff, Nat.reduceLT, Nat.reduceEqDiff, Nat.reduceBEq, Int.reduceToNat, Int.reduceNeg, Int.reduceEq, Int.reduceNe, Int.reduceLE, Int.reduceLT, reduceCtorEq, ↓reduceIte]
        have h0 : CallP Try.prog 17 [stV []] (.d (.int .i64 0)) := t17 [] (by decide)
        refine call_p rfl (h0) ?_
        simp only [vx, vz, Nat.reduceAdd, Nat.reduceSub, Nat.reduceMul, Nat.reduceLeDiff, Nat.reduceLT, Nat.reduceEqDiff, Nat.reduceBEq, Int.reduceToNat, Int.reduceNeg, Int.reduceEq, Int.reduceNe, Int.reduceLE, Int.reduceLT, reduceCtorEq, ↓reduceIte]
        refine call_p rfl (t10) ?_
        simp only [vx, vz, Nat.reduceAdd, Nat.reduceSub, Nat.reduceMul, Nat.reduceLeDiff, Nat.reduceLT, Nat.reduceEqDiff, Nat.reduceBEq, Int.reduceToNat, Int.reduceNeg, Int.reduceEq, Int.reduceNe, Int.reduceLE, Int.reduceLT, reduceCtorEq, ↓reduceIte]
end Go.Proofs.Ar
