import Derived.Test.YtllcbcmleijknaaT3
set_option linter.unusedSimpArgs false
set_option linter.unusedVariables false
namespace Go.Proofs.Tl
open Go.Vx

theorem or_join (x y : Int) (hx : 0 ≤ x ∧ x < 256) (hy : 0 ≤ y ∧ y < 256) : ((BitVec.ofInt IntKind.u16.bits x ||| BitVec.ofInt IntKind.u16.bits (y * 256)).toNat : Int) = x + 256 * y := by
  show ((BitVec.ofInt 16 x ||| BitVec.ofInt 16 (y * 256)).toNat : Int) = x + 256 * y
  rw [BitVec.toNat_or, BitVec.toNat_ofInt, BitVec.toNat_ofInt, Nat.or_comm]
  have h1 : (x % ((2 ^ 16 : Nat) : Int)).toNat = x.toNat := by omega
  have h2 : ((y * 256) % ((2 ^ 16 : Nat) : Int)).toNat = 2 ^ 8 * y.toNat := by omega
  rw [h1, h2, ← Nat.two_pow_add_eq_or_of_lt (by omega)]
  omega
def revW (w : Int) : Int := rev8 (w / 256).toNat + 256 * rev8 (w % 256).toNat
theorem t40 (w : Int) (h : U16 w) : CallP Try.prog 40 [.d (.int .u16 w)] (.d (.int .u16 (revW w))) := by
  refine go40 ac40 rfl ?_
  simp only [vx, Opd.ev, evs, pickA, eqBA, convA, sameA, nilckA, liveP, liveA, s2bA, b2sA, b2sK, boxA, boxK, buildA, buildK, aggK, bslA, bslK, rowK, ldK, ldDK, getA, loadA, loadR, loadE, storeA, stR, stC, stE, mkslA, evO, sliceA, sliceB, bI, dfl, fldAA, fldG, idxK, idxAA, idxG, byK, idxSA, extA, lenA, elemsE, elemsA, appA, appR, copA, copR, mnA, mxA, retA, retK, snapL, tupOf, V.d.injEq, D.int.injEq, D.bool.injEq, D.str.injEq, mkF, List.foldl, wkA, rowAt, oneV, setR, notStr, List.replicate, List.length, List.length_append, List.cons_append, List.nil_append, List.append_nil, List.map, List.all, List.take, List.drop, List.set, Option.map_some, Option.map_none, Nat.reduceAdd, Nat.reduceSub, Nat.reduceMul, Nat.reduceLeDiff, Nat.reduceLT, Nat.reduceEqDiff, Nat.reduceBEq, Int.reduceToNat, Int.reduceNeg, Int.reduceEq, Int.reduceNe, Int.reduceLE, Int.reduceLT, Nat.reduceAdd, ne_eq, not_false_eq_true, not_true_eq_false, bne_self_eq_false, beq_self_eq_true, Bool.not_true, Bool.not_false, decide_true, decide_false, Bool.and_true, Bool.true_and, eq_self, true_and, and_true, reduceCtorEq, forall_const, false_implies, true_implies, Nat.zero_add, Nat.add_zero, Nat.zero_mul, Nat.le_refl, Nat.lt_irrefl, ↓reduceIte, ac40]
  refine c_quiet rfl ?_
  simp only [vx, Opd.ev, evs, pickA, eqBA, convA, sameA, nilckA, liveP, liveA, s2bA, b2sA, b2sK, boxA, boxK, buildA, buildK, aggK, bslA, bslK, rowK, ldK, ldDK, getA, loadA, loadR, loadE, storeA, stR, stC, stE, mkslA, evO, sliceA, sliceB, bI, dfl, fldAA, fldG, idxK, idxAA, idxG, byK, idxSA, extA, lenA, elemsE, elemsA, appA, appR, copA, copR, mnA, mxA, retA, retK, snapL, tupOf, V.d.injEq, D.int.injEq, D.bool.injEq, D.str.injEq, mkF, List.foldl, wkA, rowAt, oneV, setR, notStr, List.replicate, List.length, List.length_append, List.cons_append, List.nil_append, List.append_nil, List.map, List.all, List.take, List.drop, List.set, Option.map_some, Option.map_none, Nat.reduceAdd, Nat.reduceSub, Nat.reduceMul, Nat.reduceLeDiff, Nat.reduceLT, Nat.reduceEqDiff, Nat.reduceBEq, Int.reduceToNat, Int.reduceNeg, Int.reduceEq, Int.reduceNe, Int.reduceLE, Int.reduceLT, Nat.reduceAdd, ne_eq, not_false_eq_true, not_true_eq_false, bne_self_eq_false, beq_self_eq_true, Bool.not_true, Bool.not_false, decide_true, decide_false, Bool.and_true, Bool.true_and, eq_self, true_and, and_true, reduceCtorEq, forall_const, false_implies, true_implies, Nat.zero_add, Nat.add_zero, Nat.zero_mul, Nat.le_refl, Nat.lt_irrefl, ↓reduceIte]
  rw [e8, litR_len]
  refine ⟨by omega, by omega, litR_get (by omega) fun b hb => ?_⟩
  simp only [vx, Opd.ev, evs, pickA, eqBA, convA, sameA, nilckA, liveP, liveA, s2bA, b2sA, b2sK, boxA, boxK, buildA, buildK, aggK, bslA, bslK, rowK, ldK, ldDK, getA, loadA, loadR, loadE, storeA, stR, stC, stE, mkslA, evO, sliceA, sliceB, bI, dfl, fldAA, fldG, idxK, idxAA, idxG, byK, idxSA, extA, lenA, elemsE, elemsA, appA, appR, copA, copR, mnA, mxA, retA, retK, snapL, tupOf, V.d.injEq, D.int.injEq, D.bool.injEq, D.str.injEq, mkF, List.foldl, wkA, rowAt, oneV, setR, notStr, List.replicate, List.length, List.length_append, List.cons_append, List.nil_append, List.append_nil, List.map, List.all, List.take, List.drop, List.set, Option.map_some, Option.map_none, Nat.reduceAdd, Nat.reduceSub, Nat.reduceMul, Nat.reduceLeDiff, Nat.reduceLT, Nat.reduceEqDiff, Nat.reduceBEq, Int.reduceToNat, Int.reduceNeg, Int.reduceEq, Int.reduceNe, Int.reduceLE, Int.reduceLT, Nat.reduceAdd, ne_eq, not_false_eq_true, not_true_eq_false, bne_self_eq_false, beq_self_eq_true, Bool.not_true, Bool.not_false, decide_true, decide_false, Bool.and_true, Bool.true_and, eq_self, true_and, and_true, reduceCtorEq, forall_const, false_implies, true_implies, Nat.zero_add, Nat.add_zero, Nat.zero_mul, Nat.le_refl, Nat.lt_irrefl, ↓reduceIte]
  rw [and_255 w h, wr_u16 (n := w % 256) (by omega) (by omega), litR_len]
  refine ⟨by omega, by omega, litR_get (by omega) fun c hc => ?_⟩
  simp only [vx, Opd.ev, evs, pickA, eqBA, convA, sameA, nilckA, liveP, liveA, s2bA, b2sA, b2sK, boxA, boxK, buildA, buildK, aggK, bslA, bslK, rowK, ldK, ldDK, getA, loadA, loadR, loadE, storeA, stR, stC, stE, mkslA, evO, sliceA, sliceB, bI, dfl, fldAA, fldG, idxK, idxAA, idxG, byK, idxSA, extA, lenA, elemsE, elemsA, appA, appR, copA, copR, mnA, mxA, retA, retK, snapL, tupOf, V.d.injEq, D.int.injEq, D.bool.injEq, D.str.injEq, mkF, List.foldl, wkA, rowAt, oneV, setR, notStr, List.replicate, List.length, List.length_append, List.cons_append, List.nil_append, List.append_nil, List.map, List.all, List.take, List.drop, List.set, Option.map_some, Option.map_none, Nat.reduceAdd, Nat.reduceSub, Nat.reduceMul, Nat.reduceLeDiff, Nat.reduceLT, Nat.reduceEqDiff, Nat.reduceBEq, Int.reduceToNat, Int.reduceNeg, Int.reduceEq, Int.reduceNe, Int.reduceLE, Int.reduceLT, Nat.reduceAdd, ne_eq, not_false_eq_true, not_true_eq_false, bne_self_eq_false, beq_self_eq_true, Bool.not_true, Bool.not_false, decide_true, decide_false, Bool.and_true, Bool.true_and, eq_self, true_and, and_true, reduceCtorEq, forall_const, false_implies, true_implies, Nat.zero_add, Nat.add_zero, Nat.zero_mul, Nat.le_refl, Nat.lt_irrefl, ↓reduceIte]
  have h1 := rev8_le (w / 256).toNat
  have h2 := rev8_le (w % 256).toNat
  rw [hb, hc, e8, wr_u16 (n := (rev8 (w / 256).toNat : Nat)) (by omega) (by omega), wr_u16 (n := (rev8 (w % 256).toNat : Nat)) (by omega) (by omega), wr_u16 (n := (rev8 (w % 256).toNat : Nat) * 256) (by omega) (by omega), or_join _ _ (by omega) (by omega), wr_u16 (by omega) (by omega)]
  rfl
theorem revW_u (w : Int) : U16 (revW w) := by
  have h1 := rev8_le (w / 256).toNat
  have h2 := rev8_le (w % 256).toNat
  unfold revW
  constructor <;> omega
theorem rev_nat (m : Nat) : rev8 (m / 256) + 256 * rev8 (m % 256) = (2 * (2 * (2 * (2 * (2 * (2 * (2 * (2 * (2 * (2 * (2 * (2 * (2 * (2 * (2 * (2 * 0 + m % 2) + m / 2 % 2) + m / 4 % 2) + m / 8 % 2) + m / 16 % 2) + m / 32 % 2) + m / 64 % 2) + m / 128 % 2) + m / 256 % 2) + m / 512 % 2) + m / 1024 % 2) + m / 2048 % 2) + m / 4096 % 2) + m / 8192 % 2) + m / 16384 % 2) + m / 32768 % 2) := by
  have a1 : m / 256 / 2 % 2 = m / 512 % 2 := by omega
  have a2 : m / 256 / 4 % 2 = m / 1024 % 2 := by omega
  have a3 : m / 256 / 8 % 2 = m / 2048 % 2 := by omega
  have a4 : m / 256 / 16 % 2 = m / 4096 % 2 := by omega
  have a5 : m / 256 / 32 % 2 = m / 8192 % 2 := by omega
  have a6 : m / 256 / 64 % 2 = m / 16384 % 2 := by omega
  have a7 : m / 256 / 128 % 2 = m / 32768 % 2 := by omega
  have c1 : m % 256 / 2 % 2 = m / 2 % 2 := by omega
  have c2 : m % 256 / 4 % 2 = m / 4 % 2 := by omega
  have c3 : m % 256 / 8 % 2 = m / 8 % 2 := by omega
  have c4 : m % 256 / 16 % 2 = m / 16 % 2 := by omega
  have c5 : m % 256 / 32 % 2 = m / 32 % 2 := by omega
  have c6 : m % 256 / 64 % 2 = m / 64 % 2 := by omega
  have c7 : m % 256 / 128 % 2 = m / 128 % 2 := by omega
  have c0 : m % 256 % 2 = m % 2 := by omega
  unfold rev8
  rw [a1, a2, a3, a4, a5, a6, a7, c0, c1, c2, c3, c4, c5, c6, c7]
  clear a1 a2 a3 a4 a5 a6 a7 c0 c1 c2 c3 c4 c5 c6 c7
  generalize m / 32768 % 2 = b15
  generalize m / 16384 % 2 = b14
  generalize m / 8192 % 2 = b13
  generalize m / 4096 % 2 = b12
  generalize m / 2048 % 2 = b11
  generalize m / 1024 % 2 = b10
  generalize m / 512 % 2 = b9
  generalize m / 256 % 2 = b8
  generalize m / 128 % 2 = b7
  generalize m / 64 % 2 = b6
  generalize m / 32 % 2 = b5
  generalize m / 16 % 2 = b4
  generalize m / 8 % 2 = b3
  generalize m / 4 % 2 = b2
  generalize m / 2 % 2 = b1
  generalize m % 2 = b0
  omega
theorem rev_eq (a : Int) : revW (wrp a) = revN a 16 := by
  obtain ⟨m, hm⟩ : ∃ m : Nat, wrp a = m := ⟨(wrp a).toNat, by have := wrp_u a; omega⟩
  unfold revW
  simp only [revN, bit_at a, Nat.reduceLT, hm, Int.reducePow]
  have e1 : ((m : Int) / 256).toNat = m / 256 := by omega
  have e2 : ((m : Int) % 256).toNat = m % 256 := by omega
  rw [e1, e2]
  have := congrArg (Nat.cast (R := Int)) (rev_nat m)
  simp only [Int.natCast_add, Int.natCast_mul, Int.natCast_emod, Int.natCast_ediv, Int.cast_ofNat_Int, Int.natCast_zero] at this
  rw [this, Int.ediv_one]
theorem revN_div (a : Int) (n j : Nat) : revN a (n + j) / 2 ^ j = revN a n := by
  induction j with
  | zero => simp
  | succ j ih =>
    rw [Int.pow_succ, Int.mul_comm, ← Int.ediv_ediv_of_nonneg (by omega)]
    have : revN a (n + (j + 1)) / 2 = revN a (n + j) := by
      have := bit_u a (n + j : Nat)
      rw [← Nat.add_assoc]
      simp only [revN]
      omega
    rw [this, ih]
theorem rev_div (a k : Int) (h : 1 ≤ k ∧ k ≤ 16) : revW (wrp a) / 2 ^ (16 - k).toNat = revN a k.toNat := by
  rw [rev_eq]
  have := revN_div a k.toNat (16 - k).toNat
  rw [show k.toNat + (16 - k).toNat = 16 by omega] at this
  exact this
theorem t17 (a k : Int) : CallP Try.prog 17 [.d (.int .i64 a), .d (.int .i64 k)] (.d (.int .i64 (revS a k))) := by
  refine go17 ac17 rfl ?_
  simp only [vx, Opd.ev, evs, pickA, eqBA, convA, sameA, nilckA, liveP, liveA, s2bA, b2sA, b2sK, boxA, boxK, buildA, buildK, aggK, bslA, bslK, rowK, ldK, ldDK, getA, loadA, loadR, loadE, storeA, stR, stC, stE, mkslA, evO, sliceA, sliceB, bI, dfl, fldAA, fldG, idxK, idxAA, idxG, byK, idxSA, extA, lenA, elemsE, elemsA, appA, appR, copA, copR, mnA, mxA, retA, retK, snapL, tupOf, V.d.injEq, D.int.injEq, D.bool.injEq, D.str.injEq, mkF, List.foldl, wkA, rowAt, oneV, setR, notStr, List.replicate, List.length, List.length_append, List.cons_append, List.nil_append, List.append_nil, List.map, List.all, List.take, List.drop, List.set, Option.map_some, Option.map_none, Nat.reduceAdd, Nat.reduceSub, Nat.reduceMul, Nat.reduceLeDiff, Nat.reduceLT, Nat.reduceEqDiff, Nat.reduceBEq, Int.reduceToNat, Int.reduceNeg, Int.reduceEq, Int.reduceNe, Int.reduceLE, Int.reduceLT, Nat.reduceAdd, ne_eq, not_false_eq_true, not_true_eq_false, bne_self_eq_false, beq_self_eq_true, Bool.not_true, Bool.not_false, decide_true, decide_false, Bool.and_true, Bool.true_and, eq_self, true_and, and_true, reduceCtorEq, forall_const, false_implies, true_implies, Nat.zero_add, Nat.add_zero, Nat.zero_mul, Nat.le_refl, Nat.lt_irrefl, ↓reduceIte, ac17]
  unfold revS
  refine split_gf (fun h => ?_) (fun h => ?_)
  · simp only [vx, Opd.ev, evs, pickA, eqBA, convA, sameA, nilckA, liveP, liveA, s2bA, b2sA, b2sK, boxA, boxK, buildA, buildK, aggK, bslA, bslK, rowK, ldK, ldDK, getA, loadA, loadR, loadE, storeA, stR, stC, stE, mkslA, evO, sliceA, sliceB, bI, dfl, fldAA, fldG, idxK, idxAA, idxG, byK, idxSA, extA, lenA, elemsE, elemsA, appA, appR, copA, copR, mnA, mxA, retA, retK, snapL, tupOf, V.d.injEq, D.int.injEq, D.bool.injEq, D.str.injEq, mkF, List.foldl, wkA, rowAt, oneV, setR, notStr, List.replicate, List.length, List.length_append, List.cons_append, List.nil_append, List.append_nil, List.map, List.all, List.take, List.drop, List.set, Option.map_some, Option.map_none, Nat.reduceAdd, Nat.reduceSub, Nat.reduceMul, Nat.reduceLeDiff, Nat.reduceLT, Nat.reduceEqDiff, Nat.reduceBEq, Int.reduceToNat, Int.reduceNeg, Int.reduceEq, Int.reduceNe, Int.reduceLE, Int.reduceLT, Nat.reduceAdd, ne_eq, not_false_eq_true, not_true_eq_false, bne_self_eq_false, beq_self_eq_true, Bool.not_true, Bool.not_false, decide_true, decide_false, Bool.and_true, Bool.true_and, eq_self, true_and, and_true, reduceCtorEq, forall_const, false_implies, true_implies, Nat.zero_add, Nat.add_zero, Nat.zero_mul, Nat.le_refl, Nat.lt_irrefl, ↓reduceIte, h]
    refine cond_split (fun h2 => ?_) (fun h2 => ?_)
    · simp only [vx, Opd.ev, evs, pickA, eqBA, convA, sameA, nilckA, liveP, liveA, s2bA, b2sA, b2sK, boxA, boxK, buildA, buildK, aggK, bslA, bslK, rowK, ldK, ldDK, getA, loadA, loadR, loadE, storeA, stR, stC, stE, mkslA, evO, sliceA, sliceB, bI, dfl, fldAA, fldG, idxK, idxAA, idxG, byK, idxSA, extA, lenA, elemsE, elemsA, appA, appR, copA, copR, mnA, mxA, retA, retK, snapL, tupOf, V.d.injEq, D.int.injEq, D.bool.injEq, D.str.injEq, mkF, List.foldl, wkA, rowAt, oneV, setR, notStr, List.replicate, List.length, List.length_append, List.cons_append, List.nil_append, List.append_nil, List.map, List.all, List.take, List.drop, List.set, Option.map_some, Option.map_none, Nat.reduceAdd, Nat.reduceSub, Nat.reduceMul, Nat.reduceLeDiff, Nat.reduceLT, Nat.reduceEqDiff, Nat.reduceBEq, Int.reduceToNat, Int.reduceNeg, Int.reduceEq, Int.reduceNe, Int.reduceLE, Int.reduceLT, Nat.reduceAdd, ne_eq, not_false_eq_true, not_true_eq_false, bne_self_eq_false, beq_self_eq_true, Bool.not_true, Bool.not_false, decide_true, decide_false, Bool.and_true, Bool.true_and, eq_self, true_and, and_true, reduceCtorEq, forall_const, false_implies, true_implies, Nat.zero_add, Nat.add_zero, Nat.zero_mul, Nat.le_refl, Nat.lt_irrefl, ↓reduceIte]
      simp only [decide_eq_true_eq] at h2
      rw [if_pos (by omega)]
    · simp only [vx, Opd.ev, evs, pickA, eqBA, convA, sameA, nilckA, liveP, liveA, s2bA, b2sA, b2sK, boxA, boxK, buildA, buildK, aggK, bslA, bslK, rowK, ldK, ldDK, getA, loadA, loadR, loadE, storeA, stR, stC, stE, mkslA, evO, sliceA, sliceB, bI, dfl, fldAA, fldG, idxK, idxAA, idxG, byK, idxSA, extA, lenA, elemsE, elemsA, appA, appR, copA, copR, mnA, mxA, retA, retK, snapL, tupOf, V.d.injEq, D.int.injEq, D.bool.injEq, D.str.injEq, mkF, List.foldl, wkA, rowAt, oneV, setR, notStr, List.replicate, List.length, List.length_append, List.cons_append, List.nil_append, List.append_nil, List.map, List.all, List.take, List.drop, List.set, Option.map_some, Option.map_none, Nat.reduceAdd, Nat.reduceSub, Nat.reduceMul, Nat.reduceLeDiff, Nat.reduceLT, Nat.reduceEqDiff, Nat.reduceBEq, Int.reduceToNat, Int.reduceNeg, Int.reduceEq, Int.reduceNe, Int.reduceLE, Int.reduceLT, Nat.reduceAdd, ne_eq, not_false_eq_true, not_true_eq_false, bne_self_eq_false, beq_self_eq_true, Bool.not_true, Bool.not_false, decide_true, decide_false, Bool.and_true, Bool.true_and, eq_self, true_and, and_true, reduceCtorEq, forall_const, false_implies, true_implies, Nat.zero_add, Nat.add_zero, Nat.zero_mul, Nat.le_refl, Nat.lt_irrefl, ↓reduceIte]
      simp only [decide_eq_false_iff_not] at h h2
      refine call_p rfl (t37 a) ?_
      simp only [vx, Opd.ev, evs, pickA, eqBA, convA, sameA, nilckA, liveP, liveA, s2bA, b2sA, b2sK, boxA, boxK, buildA, buildK, aggK, bslA, bslK, rowK, ldK, ldDK, getA, loadA, loadR, loadE, storeA, stR, stC, stE, mkslA, evO, sliceA, sliceB, bI, dfl, fldAA, fldG, idxK, idxAA, idxG, byK, idxSA, extA, lenA, elemsE, elemsA, appA, appR, copA, copR, mnA, mxA, retA, retK, snapL, tupOf, V.d.injEq, D.int.injEq, D.bool.injEq, D.str.injEq, mkF, List.foldl, wkA, rowAt, oneV, setR, notStr, List.replicate, List.length, List.length_append, List.cons_append, List.nil_append, List.append_nil, List.map, List.all, List.take, List.drop, List.set, Option.map_some, Option.map_none, Nat.reduceAdd, Nat.reduceSub, Nat.reduceMul, Nat.reduceLeDiff, Nat.reduceLT, Nat.reduceEqDiff, Nat.reduceBEq, Int.reduceToNat, Int.reduceNeg, Int.reduceEq, Int.reduceNe, Int.reduceLE, Int.reduceLT, Nat.reduceAdd, ne_eq, not_false_eq_true, not_true_eq_false, bne_self_eq_false, beq_self_eq_true, Bool.not_true, Bool.not_false, decide_true, decide_false, Bool.and_true, Bool.true_and, eq_self, true_and, and_true, reduceCtorEq, forall_const, false_implies, true_implies, Nat.zero_add, Nat.add_zero, Nat.zero_mul, Nat.le_refl, Nat.lt_irrefl, ↓reduceIte]
      refine call_p rfl (t40 _ (wrp_u a)) ?_
      simp only [vx, Opd.ev, evs, pickA, eqBA, convA, sameA, nilckA, liveP, liveA, s2bA, b2sA, b2sK, boxA, boxK, buildA, buildK, aggK, bslA, bslK, rowK, ldK, ldDK, getA, loadA, loadR, loadE, storeA, stR, stC, stE, mkslA, evO, sliceA, sliceB, bI, dfl, fldAA, fldG, idxK, idxAA, idxG, byK, idxSA, extA, lenA, elemsE, elemsA, appA, appR, copA, copR, mnA, mxA, retA, retK, snapL, tupOf, V.d.injEq, D.int.injEq, D.bool.injEq, D.str.injEq, mkF, List.foldl, wkA, rowAt, oneV, setR, notStr, List.replicate, List.length, List.length_append, List.cons_append, List.nil_append, List.append_nil, List.map, List.all, List.take, List.drop, List.set, Option.map_some, Option.map_none, Nat.reduceAdd, Nat.reduceSub, Nat.reduceMul, Nat.reduceLeDiff, Nat.reduceLT, Nat.reduceEqDiff, Nat.reduceBEq, Int.reduceToNat, Int.reduceNeg, Int.reduceEq, Int.reduceNe, Int.reduceLE, Int.reduceLT, Nat.reduceAdd, ne_eq, not_false_eq_true, not_true_eq_false, bne_self_eq_false, beq_self_eq_true, Bool.not_true, Bool.not_false, decide_true, decide_false, Bool.and_true, Bool.true_and, eq_self, true_and, and_true, reduceCtorEq, forall_const, false_implies, true_implies, Nat.zero_add, Nat.add_zero, Nat.zero_mul, Nat.le_refl, Nat.lt_irrefl, ↓reduceIte]
      rw [i64_small (n := 16 - k) (by omega)]
      refine ⟨by omega, ?_⟩
      rw [Nat.min_eq_left (by show (16 - k).toNat ≤ 16; omega), rev_div a k (by omega), if_neg (by omega)]
      have h3 := revN_u a k.toNat
      have h4 := pow_le (i := k.toNat) (by omega)
      rw [i64_small (by omega)]
  · simp only [vx, Opd.ev, evs, pickA, eqBA, convA, sameA, nilckA, liveP, liveA, s2bA, b2sA, b2sK, boxA, boxK, buildA, buildK, aggK, bslA, bslK, rowK, ldK, ldDK, getA, loadA, loadR, loadE, storeA, stR, stC, stE, mkslA, evO, sliceA, sliceB, bI, dfl, fldAA, fldG, idxK, idxAA, idxG, byK, idxSA, extA, lenA, elemsE, elemsA, appA, appR, copA, copR, mnA, mxA, retA, retK, snapL, tupOf, V.d.injEq, D.int.injEq, D.bool.injEq, D.str.injEq, mkF, List.foldl, wkA, rowAt, oneV, setR, notStr, List.replicate, List.length, List.length_append, List.cons_append, List.nil_append, List.append_nil, List.map, List.all, List.take, List.drop, List.set, Option.map_some, Option.map_none, Nat.reduceAdd, Nat.reduceSub, Nat.reduceMul, Nat.reduceLeDiff, Nat.reduceLT, Nat.reduceEqDiff, Nat.reduceBEq, Int.reduceToNat, Int.reduceNeg, Int.reduceEq, Int.reduceNe, Int.reduceLE, Int.reduceLT, Nat.reduceAdd, ne_eq, not_false_eq_true, not_true_eq_false, bne_self_eq_false, beq_self_eq_true, Bool.not_true, Bool.not_false, decide_true, decide_false, Bool.and_true, Bool.true_and, eq_self, true_and, and_true, reduceCtorEq, forall_const, false_implies, true_implies, Nat.zero_add, Nat.add_zero, Nat.zero_mul, Nat.le_refl, Nat.lt_irrefl, ↓reduceIte, h]
    simp only [decide_eq_true_eq] at h
    rw [if_pos (by omega)]

/-! ### the plain laws of the words -/
theorem rev_bit (a : Int) (k i : Nat) (hk : k ≤ 16) (hi : i < 16) : bitS (revN a k) i = if i < k then bitS a ((k - 1 - i : Nat) : Int) else 0 := by
  have h1 := revN_u a k
  have h2 := pow_le (i := k) (by omega)
  have hw : wrp (revN a k) = revN a k := by unfold wrp; omega
  rw [bit_at _ i hi, hw]
  split
  · have h3 := revN_div a (k - i) i
    rw [show k - i + i = k by omega] at h3
    rw [h3, show k - i = (k - 1 - i) + 1 by omega]
    have := bit_u a (k - 1 - i : Nat)
    simp only [revN]
    omega
  · have h4 : (2 : Int) ^ k ≤ 2 ^ i := by
      have : (2 : Nat) ^ k ≤ 2 ^ i := Nat.pow_le_pow_right (by omega) (by omega)
      exact_mod_cast this
    rw [Int.ediv_eq_zero_of_lt h1.1 (by omega)]
    rfl
theorem mod_step (q : Int) (n : Nat) : 2 * (q / 2 % 2 ^ n) + q % 2 = q % 2 ^ (n + 1) := by
  have h1 := Int.mul_emod_mul_of_pos (q / 2) (2 ^ n) (a := 2) (by omega)
  have hp : (0 : Int) < 2 ^ n := Int.pow_pos (by omega)
  have h2 : q = 2 * (q / 2) + q % 2 := by omega
  have h3 : (2 * (q / 2) + q % 2) % (2 * 2 ^ n) = 2 * (q / 2) % (2 * 2 ^ n) + q % 2 := by
    have h4 := Int.emod_nonneg (2 * (q / 2)) (b := 2 * 2 ^ n) (by omega)
    have h5 := Int.emod_lt_of_pos (2 * (q / 2)) (b := 2 * 2 ^ n) (by omega)
    rw [Int.add_emod, Int.emod_eq_of_lt (a := q % 2) (by omega) (by omega)]
    rw [h1] at h4 h5 ⊢
    exact Int.emod_eq_of_lt (by omega) (by omega)
  rw [Int.pow_succ, Int.mul_comm _ 2]
  conv => rhs; rw [h2, h3, h1]
theorem rev_rev (a : Int) (k : Nat) (hk : k ≤ 16) : ∀ n, n ≤ k → revN (revN a k) n = wrp a / 2 ^ (k - n) % 2 ^ n := by
  intro n
  induction n with
  | zero => intro _; simp [revN, Int.emod_one]
  | succ n ih =>
    intro hn
    have h1 := rev_bit a k n hk (by omega)
    rw [if_pos (by omega), show k - 1 - n = k - (n + 1) by omega, bit_at a _ (by omega)] at h1
    simp only [revN]
    rw [ih (by omega), h1, ← mod_step]
    rw [Int.ediv_ediv_of_nonneg (Int.pow_nonneg (by omega)), ← Int.pow_succ, show (k - (n + 1)).succ = k - n by omega]
theorem ones_lo (x y : Int) (n : Nat) (h : ∀ i, i < n → bitS x (i : Nat) = bitS y (i : Nat)) : onesN x n = onesN y n := by
  induction n with
  | zero => rfl
  | succ n ih => simp only [onesN]; rw [ih fun i hi => h i (by omega), h n (by omega)]
theorem ones_hi (x : Int) (k j : Nat) (h : ∀ i, k ≤ i → i < k + j → bitS x (i : Nat) = 0) : onesN x (k + j) = onesN x k := by
  induction j with
  | zero => rfl
  | succ j ih => rw [← Nat.add_assoc]; simp only [onesN]; rw [ih fun i h1 h2 => h i h1 (by omega), h (k + j) (by omega) (by omega)]; omega
theorem ones_rev (a : Int) (k : Nat) (hk : k ≤ 16) : ∀ n, n ≤ k → onesN (revN a k) n + onesN a (k - n) = onesN a k := by
  intro n
  induction n with
  | zero => intro _; simp [onesN]
  | succ n ih =>
    intro hn
    have h1 := rev_bit a k n hk (by omega)
    rw [if_pos (by omega), show k - 1 - n = k - (n + 1) by omega] at h1
    have h2 := ih (by omega)
    rw [show k - n = k - (n + 1) + 1 by omega] at h2
    simp only [onesN] at h2 ⊢
    rw [h1]; omega
theorem low_bit (a : Int) (k i : Nat) (hk : k ≤ 16) (hi : i < 16) : bitS (wrp a % 2 ^ k) (i : Nat) = if i < k then bitS a (i : Nat) else 0 := by
  have h1 := wrp_u a
  have h2 := pow_le (i := k) (by omega)
  have h3 := Int.emod_nonneg (wrp a) (b := 2 ^ k) (by omega)
  have h4 := Int.emod_lt_of_pos (wrp a) (b := 2 ^ k) (by omega)
  have hw : wrp (wrp a % 2 ^ k) = wrp a % 2 ^ k := by show (wrp a % 2 ^ k) % 65536 = _; omega
  rw [bit_at _ i hi, hw]
  split
  · rw [bit_at _ i hi]
    have e : (2 : Int) ^ k = 2 ^ i * 2 * 2 ^ (k - i - 1) := by
      rw [← Int.pow_succ, ← Int.pow_add]; congr 1; omega
    have hp : (0 : Int) < 2 ^ i := Int.pow_pos (by omega)
    have hq : (0 : Int) < 2 ^ (k - i - 1) := Int.pow_pos (by omega)
    have h5 := Int.mul_ediv_add_emod (wrp a) (2 ^ k)
    generalize wrp a % 2 ^ k = r at *
    generalize wrp a / 2 ^ k = q at *
    have h6 : wrp a / 2 ^ i = r / 2 ^ i + 2 * (2 ^ (k - i - 1) * q) := by
      rw [← h5, e, Int.mul_assoc, Int.mul_assoc, Int.add_comm, Int.add_mul_ediv_left _ _ (by omega)]
    rw [h6, Int.add_mul_emod_self_left]
  · have h7 : (2 : Int) ^ k ≤ 2 ^ i := by
      have : (2 : Nat) ^ k ≤ 2 ^ i := Nat.pow_le_pow_right (by omega) (by omega)
      exact_mod_cast this
    rw [Int.ediv_eq_zero_of_lt h3 (by omega)]
    rfl
theorem ones_eq (a : Int) (k : Nat) (hk : k ≤ 16) : onesS (revN a k) = onesS (wrp a % 2 ^ k) := by
  unfold onesS
  have h1 := ones_hi (revN a k) k (16 - k) (fun i h1 h2 => by rw [rev_bit a k i hk (by omega), if_neg (by omega)])
  have h2 := ones_hi (wrp a % 2 ^ k) k (16 - k) (fun i h1 h2 => by rw [low_bit a k i hk (by omega), if_neg (by omega)])
  rw [show k + (16 - k) = 16 by omega] at h1 h2
  rw [h1, h2]
  have h3 := ones_rev a k hk k (Nat.le_refl _)
  have h4 := ones_lo (wrp a % 2 ^ k) a k (fun i hi => by rw [low_bit a k i hk (by omega), if_pos hi])
  rw [Nat.sub_self] at h3
  simp only [onesN] at h3
  omega
end Go.Proofs.Tl
