import Derived.Test.YtllcbcmleijknaaT2
set_option linter.unusedSimpArgs false
set_option linter.unusedVariables false
namespace Go.Proofs.Tl
open Go.Vx

/-- the ones of a byte -/
def pop8 (n : Nat) : Nat := n % 2 + n / 2 % 2 + n / 4 % 2 + n / 8 % 2 + n / 16 % 2 + n / 32 % 2 + n / 64 % 2 + n / 128 % 2
def rev8 (n : Nat) : Nat := n % 2 * 128 + n / 2 % 2 * 64 + n / 4 % 2 * 32 + n / 8 % 2 * 16 + n / 16 % 2 * 8 + n / 32 % 2 * 4 + n / 64 % 2 * 2 + n / 128 % 2
theorem tabO_at : ∀ i : Fin 256, (lit1[i.val]?).map (·.toNat) = some (pop8 i.val) := by decide +kernel
theorem tabR_at : ∀ i : Fin 256, (lit0[i.val]?).map (·.toNat) = some (rev8 i.val) := by decide +kernel
theorem and_255 (n : Int) (h : U16 n) : ((BitVec.ofInt IntKind.u16.bits n &&& BitVec.ofInt IntKind.u16.bits 255).toNat : Int) = n % 256 := by
  show ((BitVec.ofInt 16 n &&& BitVec.ofInt 16 255).toNat : Int) = n % 256
  rw [BitVec.toNat_and, BitVec.toNat_ofInt, BitVec.toNat_ofInt]
  have : ((255 : Int) % ((2 ^ 16 : Nat) : Int)).toNat = 2 ^ 8 - 1 := by decide
  rw [this, Nat.and_two_pow_sub_one_eq_mod]
  omega
theorem litO_get {j : Nat} (hj : j < 256) {f : UInt8 → Prop} (h : ∀ b : UInt8, b.toNat = pop8 j → f b) : getA lit1 j f := by
  have h1 := tabO_at ⟨j, hj⟩
  obtain ⟨b, h2, h3⟩ := Option.map_eq_some_iff.1 h1
  exact getA_iff.2 ⟨b, h2, h b h3⟩
theorem litR_get {j : Nat} (hj : j < 256) {f : UInt8 → Prop} (h : ∀ b : UInt8, b.toNat = rev8 j → f b) : getA lit0 j f := by
  have h1 := tabR_at ⟨j, hj⟩
  obtain ⟨b, h2, h3⟩ := Option.map_eq_some_iff.1 h1
  exact getA_iff.2 ⟨b, h2, h b h3⟩
theorem litO_len : (lit1.length : Int) = 256 := by decide +kernel
theorem litR_len : (lit0.length : Int) = 256 := by decide +kernel
theorem e8 : (2 : Int) ^ (min 8 IntKind.u16.bits) = 256 := by decide
theorem pop8_le (n : Nat) : pop8 n ≤ 8 := by unfold pop8; omega
theorem rev8_le (n : Nat) : rev8 n ≤ 255 := by unfold rev8; omega
def popW (w : Int) : Int := pop8 (w / 256).toNat + pop8 (w % 256).toNat
theorem t41 (w : Int) (h : U16 w) : CallP Try.prog 41 [.d (.int .u16 w)] (.d (.int .i64 (popW w))) := by
  refine go41 ac41 rfl ?_
  simp only [vx, Opd.ev, evs, pickA, eqBA, convA, sameA, nilckA, liveP, liveA, s2bA, b2sA, b2sK, boxA, boxK, buildA, buildK, aggK, bslA, bslK, rowK, ldK, ldDK, getA, loadA, loadR, loadE, storeA, stR, stC, stE, mkslA, evO, sliceA, sliceB, bI, dfl, fldAA, fldG, idxK, idxAA, idxG, byK, idxSA, extA, lenA, elemsE, elemsA, appA, appR, copA, copR, mnA, mxA, retA, retK, snapL, tupOf, V.d.injEq, D.int.injEq, D.bool.injEq, D.str.injEq, mkF, List.foldl, wkA, rowAt, oneV, setR, notStr, List.replicate, List.length, List.length_append, List.cons_append, List.nil_append, List.append_nil, List.map, List.all, List.take, List.drop, List.set, Option.map_some, Option.map_none, Nat.reduceAdd, Nat.reduceSub, Nat.reduceMul, Nat.reduceLeDiff, Nat.reduceLT, Nat.reduceEqDiff, Nat.reduceBEq, Int.reduceToNat, Int.reduceNeg, Int.reduceEq, Int.reduceNe, Int.reduceLE, Int.reduceLT, Nat.reduceAdd, ne_eq, not_false_eq_true, not_true_eq_false, bne_self_eq_false, beq_self_eq_true, Bool.not_true, Bool.not_false, decide_true, decide_false, Bool.and_true, Bool.true_and, eq_self, true_and, and_true, reduceCtorEq, forall_const, false_implies, true_implies, Nat.zero_add, Nat.add_zero, Nat.zero_mul, Nat.le_refl, Nat.lt_irrefl, ↓reduceIte, ac41]
  refine c_quiet rfl ?_
  simp only [vx, Opd.ev, evs, pickA, eqBA, convA, sameA, nilckA, liveP, liveA, s2bA, b2sA, b2sK, boxA, boxK, buildA, buildK, aggK, bslA, bslK, rowK, ldK, ldDK, getA, loadA, loadR, loadE, storeA, stR, stC, stE, mkslA, evO, sliceA, sliceB, bI, dfl, fldAA, fldG, idxK, idxAA, idxG, byK, idxSA, extA, lenA, elemsE, elemsA, appA, appR, copA, copR, mnA, mxA, retA, retK, snapL, tupOf, V.d.injEq, D.int.injEq, D.bool.injEq, D.str.injEq, mkF, List.foldl, wkA, rowAt, oneV, setR, notStr, List.replicate, List.length, List.length_append, List.cons_append, List.nil_append, List.append_nil, List.map, List.all, List.take, List.drop, List.set, Option.map_some, Option.map_none, Nat.reduceAdd, Nat.reduceSub, Nat.reduceMul, Nat.reduceLeDiff, Nat.reduceLT, Nat.reduceEqDiff, Nat.reduceBEq, Int.reduceToNat, Int.reduceNeg, Int.reduceEq, Int.reduceNe, Int.reduceLE, Int.reduceLT, Nat.reduceAdd, ne_eq, not_false_eq_true, not_true_eq_false, bne_self_eq_false, beq_self_eq_true, Bool.not_true, Bool.not_false, decide_true, decide_false, Bool.and_true, Bool.true_and, eq_self, true_and, and_true, reduceCtorEq, forall_const, false_implies, true_implies, Nat.zero_add, Nat.add_zero, Nat.zero_mul, Nat.le_refl, Nat.lt_irrefl, ↓reduceIte]
  rw [e8, litO_len]
  refine ⟨by omega, by omega, litO_get (by omega) fun b hb => ?_⟩
  simp only [vx, Opd.ev, evs, pickA, eqBA, convA, sameA, nilckA, liveP, liveA, s2bA, b2sA, b2sK, boxA, boxK, buildA, buildK, aggK, bslA, bslK, rowK, ldK, ldDK, getA, loadA, loadR, loadE, storeA, stR, stC, stE, mkslA, evO, sliceA, sliceB, bI, dfl, fldAA, fldG, idxK, idxAA, idxG, byK, idxSA, extA, lenA, elemsE, elemsA, appA, appR, copA, copR, mnA, mxA, retA, retK, snapL, tupOf, V.d.injEq, D.int.injEq, D.bool.injEq, D.str.injEq, mkF, List.foldl, wkA, rowAt, oneV, setR, notStr, List.replicate, List.length, List.length_append, List.cons_append, List.nil_append, List.append_nil, List.map, List.all, List.take, List.drop, List.set, Option.map_some, Option.map_none, Nat.reduceAdd, Nat.reduceSub, Nat.reduceMul, Nat.reduceLeDiff, Nat.reduceLT, Nat.reduceEqDiff, Nat.reduceBEq, Int.reduceToNat, Int.reduceNeg, Int.reduceEq, Int.reduceNe, Int.reduceLE, Int.reduceLT, Nat.reduceAdd, ne_eq, not_false_eq_true, not_true_eq_false, bne_self_eq_false, beq_self_eq_true, Bool.not_true, Bool.not_false, decide_true, decide_false, Bool.and_true, Bool.true_and, eq_self, true_and, and_true, reduceCtorEq, forall_const, false_implies, true_implies, Nat.zero_add, Nat.add_zero, Nat.zero_mul, Nat.le_refl, Nat.lt_irrefl, ↓reduceIte]
  rw [and_255 w h, wr_u16 (n := w % 256) (by omega) (by omega), litO_len]
  refine ⟨by omega, by omega, litO_get (by omega) fun c hc => ?_⟩
  simp only [vx, Opd.ev, evs, pickA, eqBA, convA, sameA, nilckA, liveP, liveA, s2bA, b2sA, b2sK, boxA, boxK, buildA, buildK, aggK, bslA, bslK, rowK, ldK, ldDK, getA, loadA, loadR, loadE, storeA, stR, stC, stE, mkslA, evO, sliceA, sliceB, bI, dfl, fldAA, fldG, idxK, idxAA, idxG, byK, idxSA, extA, lenA, elemsE, elemsA, appA, appR, copA, copR, mnA, mxA, retA, retK, snapL, tupOf, V.d.injEq, D.int.injEq, D.bool.injEq, D.str.injEq, mkF, List.foldl, wkA, rowAt, oneV, setR, notStr, List.replicate, List.length, List.length_append, List.cons_append, List.nil_append, List.append_nil, List.map, List.all, List.take, List.drop, List.set, Option.map_some, Option.map_none, Nat.reduceAdd, Nat.reduceSub, Nat.reduceMul, Nat.reduceLeDiff, Nat.reduceLT, Nat.reduceEqDiff, Nat.reduceBEq, Int.reduceToNat, Int.reduceNeg, Int.reduceEq, Int.reduceNe, Int.reduceLE, Int.reduceLT, Nat.reduceAdd, ne_eq, not_false_eq_true, not_true_eq_false, bne_self_eq_false, beq_self_eq_true, Bool.not_true, Bool.not_false, decide_true, decide_false, Bool.and_true, Bool.true_and, eq_self, true_and, and_true, reduceCtorEq, forall_const, false_implies, true_implies, Nat.zero_add, Nat.add_zero, Nat.zero_mul, Nat.le_refl, Nat.lt_irrefl, ↓reduceIte]
  have h1 := pop8_le (w / 256).toNat
  have h2 := pop8_le (w % 256).toNat
  rw [hb, hc, wr_u8 (by omega) (by omega), wr_i64 (by omega) (by omega)]
  rfl
theorem bit_at (a : Int) (i : Nat) (h : i < 16) : bitS a i = wrp a / 2 ^ i % 2 := by
  unfold bitS shrS
  rw [if_neg (by omega)]; rfl
theorem pop_nat (m : Nat) : pop8 (m / 256) + pop8 (m % 256) = 0 + m % 2 + m / 2 % 2 + m / 4 % 2 + m / 8 % 2 + m / 16 % 2 + m / 32 % 2 + m / 64 % 2 + m / 128 % 2 + m / 256 % 2 + m / 512 % 2 + m / 1024 % 2 + m / 2048 % 2 + m / 4096 % 2 + m / 8192 % 2 + m / 16384 % 2 + m / 32768 % 2 := by
  have a1 : m / 256 / 2 % 2 = m / 512 % 2 := by omega
  have a2 : m / 256 / 4 % 2 = m / 1024 % 2 := by omega
  have a3 : m / 256 / 8 % 2 = m / 2048 % 2 := by omega
  have a4 : m / 256 / 16 % 2 = m / 4096 % 2 := by omega
  have a5 : m / 256 / 32 % 2 = m / 8192 % 2 := by omega
  have a6 : m / 256 / 64 % 2 = m / 16384 % 2 := by omega
  have a7 : m / 256 / 128 % 2 = m / 32768 % 2 := by omega
  have c1 : m % 256 / 2 % 2 = m / 2 % 2 := by omega
  have c2 : m % 256 / 4 % 2 = m / 4 % 2 := by omega
  have c3 : m % 256 / 8 % 2 = m / 8 % 2 := by omega
  have c4 : m % 256 / 16 % 2 = m / 16 % 2 := by omega
  have c5 : m % 256 / 32 % 2 = m / 32 % 2 := by omega
  have c6 : m % 256 / 64 % 2 = m / 64 % 2 := by omega
  have c7 : m % 256 / 128 % 2 = m / 128 % 2 := by omega
  have c0 : m % 256 % 2 = m % 2 := by omega
  unfold pop8
  rw [a1, a2, a3, a4, a5, a6, a7, c0, c1, c2, c3, c4, c5, c6, c7, Nat.zero_add]
  ac_rfl
theorem pop_eq (a : Int) : popW (wrp a) = onesS a := by
  obtain ⟨m, hm⟩ : ∃ m : Nat, wrp a = m := ⟨(wrp a).toNat, by have := wrp_u a; omega⟩
  unfold popW onesS
  simp only [onesN, bit_at a, Nat.reduceLT, hm, Int.reducePow]
  have e1 : ((m : Int) / 256).toNat = m / 256 := by omega
  have e2 : ((m : Int) % 256).toNat = m % 256 := by omega
  rw [e1, e2]
  have := congrArg (Nat.cast (R := Int)) (pop_nat m)
  simp only [Int.natCast_add, Int.natCast_emod, Int.natCast_ediv, Int.cast_ofNat_Int, Int.natCast_zero] at this
  rw [this, Int.ediv_one]
theorem t19 (a : Int) : CallP Try.prog 19 [.d (.int .i64 a)] (.d (.int .i64 (onesS a))) := by
  refine go19 ac19 rfl ?_
  simp only [vx, Opd.ev, evs, pickA, eqBA, convA, sameA, nilckA, liveP, liveA, s2bA, b2sA, b2sK, boxA, boxK, buildA, buildK, aggK, bslA, bslK, rowK, ldK, ldDK, getA, loadA, loadR, loadE, storeA, stR, stC, stE, mkslA, evO, sliceA, sliceB, bI, dfl, fldAA, fldG, idxK, idxAA, idxG, byK, idxSA, extA, lenA, elemsE, elemsA, appA, appR, copA, copR, mnA, mxA, retA, retK, snapL, tupOf, V.d.injEq, D.int.injEq, D.bool.injEq, D.str.injEq, mkF, List.foldl, wkA, rowAt, oneV, setR, notStr, List.replicate, List.length, List.length_append, List.cons_append, List.nil_append, List.append_nil, List.map, List.all, List.take, List.drop, List.set, Option.map_some, Option.map_none, Nat.reduceAdd, Nat.reduceSub, Nat.reduceMul, Nat.reduceLeDiff, Nat.reduceLT, Nat.reduceEqDiff, Nat.reduceBEq, Int.reduceToNat, Int.reduceNeg, Int.reduceEq, Int.reduceNe, Int.reduceLE, Int.reduceLT, Nat.reduceAdd, ne_eq, not_false_eq_true, not_true_eq_false, bne_self_eq_false, beq_self_eq_true, Bool.not_true, Bool.not_false, decide_true, decide_false, Bool.and_true, Bool.true_and, eq_self, true_and, and_true, reduceCtorEq, forall_const, false_implies, true_implies, Nat.zero_add, Nat.add_zero, Nat.zero_mul, Nat.le_refl, Nat.lt_irrefl, ↓reduceIte, ac19]
  refine call_p rfl (t37 a) ?_
  simp only [vx, Opd.ev, evs, pickA, eqBA, convA, sameA, nilckA, liveP, liveA, s2bA, b2sA, b2sK, boxA, boxK, buildA, buildK, aggK, bslA, bslK, rowK, ldK, ldDK, getA, loadA, loadR, loadE, storeA, stR, stC, stE, mkslA, evO, sliceA, sliceB, bI, dfl, fldAA, fldG, idxK, idxAA, idxG, byK, idxSA, extA, lenA, elemsE, elemsA, appA, appR, copA, copR, mnA, mxA, retA, retK, snapL, tupOf, V.d.injEq, D.int.injEq, D.bool.injEq, D.str.injEq, mkF, List.foldl, wkA, rowAt, oneV, setR, notStr, List.replicate, List.length, List.length_append, List.cons_append, List.nil_append, List.append_nil, List.map, List.all, List.take, List.drop, List.set, Option.map_some, Option.map_none, Nat.reduceAdd, Nat.reduceSub, Nat.reduceMul, Nat.reduceLeDiff, Nat.reduceLT, Nat.reduceEqDiff, Nat.reduceBEq, Int.reduceToNat, Int.reduceNeg, Int.reduceEq, Int.reduceNe, Int.reduceLE, Int.reduceLT, Nat.reduceAdd, ne_eq, not_false_eq_true, not_true_eq_false, bne_self_eq_false, beq_self_eq_true, Bool.not_true, Bool.not_false, decide_true, decide_false, Bool.and_true, Bool.true_and, eq_self, true_and, and_true, reduceCtorEq, forall_const, false_implies, true_implies, Nat.zero_add, Nat.add_zero, Nat.zero_mul, Nat.le_refl, Nat.lt_irrefl, ↓reduceIte]
  refine call_p rfl (t41 _ (wrp_u a)) ?_
  simp only [vx, Opd.ev, evs, pickA, eqBA, convA, sameA, nilckA, liveP, liveA, s2bA, b2sA, b2sK, boxA, boxK, buildA, buildK, aggK, bslA, bslK, rowK, ldK, ldDK, getA, loadA, loadR, loadE, storeA, stR, stC, stE, mkslA, evO, sliceA, sliceB, bI, dfl, fldAA, fldG, idxK, idxAA, idxG, byK, idxSA, extA, lenA, elemsE, elemsA, appA, appR, copA, copR, mnA, mxA, retA, retK, snapL, tupOf, V.d.injEq, D.int.injEq, D.bool.injEq, D.str.injEq, mkF, List.foldl, wkA, rowAt, oneV, setR, notStr, List.replicate, List.length, List.length_append, List.cons_append, List.nil_append, List.append_nil, List.map, List.all, List.take, List.drop, List.set, Option.map_some, Option.map_none, Nat.reduceAdd, Nat.reduceSub, Nat.reduceMul, Nat.reduceLeDiff, Nat.reduceLT, Nat.reduceEqDiff, Nat.reduceBEq, Int.reduceToNat, Int.reduceNeg, Int.reduceEq, Int.reduceNe, Int.reduceLE, Int.reduceLT, Nat.reduceAdd, ne_eq, not_false_eq_true, not_true_eq_false, bne_self_eq_false, beq_self_eq_true, Bool.not_true, Bool.not_false, decide_true, decide_false, Bool.and_true, Bool.true_and, eq_self, true_and, and_true, reduceCtorEq, forall_const, false_implies, true_implies, Nat.zero_add, Nat.add_zero, Nat.zero_mul, Nat.le_refl, Nat.lt_irrefl, ↓reduceIte]
  exact pop_eq a
end Go.Proofs.Tl
