import Derived.Test.YtapgahonfifgnaaDoorL3
import Derived.Test.YtapgahonfifgnaaDoorVxArg4
set_option linter.unusedSimpArgs false
set_option linter.unusedVariables false
namespace Go.Proofs.Sg
open Go.Vx
def wrdK (n : Nat) : B := match n with
  | 0 => [109, 105, 115, 109, 97, 116, 99, 104]
  | 1 => [101, 120, 116, 114, 97]
  | _ => [108, 111, 115, 116]
/-- a result with a signature -/
def mkR (s : B) : Rz := ⟨[116], .int .u64 0, [100], s, 0, 0, 0, .nils, .nils, .int .i64 0, .int .i64 0⟩
theorem mkR_d (s : B) : rs s = (mkR s).d := rfl
theorem t25r (s : B) : CallP Tryd.prog 25 [.d (.str s)] (rzV (mkR s)) := t25 s
theorem wrd_at {n : Nat} (h : n < 3) : [V.d (.str [109, 105, 115, 109, 97, 116, 99, 104]), V.d (.str [101, 120, 116, 114, 97]), V.d (.str [108, 111, 115, 116])][n]? = some (V.d (.str (wrdK n))) := by
  match n, h with
  | 0, _ => rfl
  | 1, _ => rfl
  | 2, _ => rfl
theorem cut_no {s : B} (h : ∀ b ∈ s, b ≠ 32) (r : B) : cutS 32 (s ++ 32 :: r) = (s, r, true) := by
  induction s with
  | nil => rfl
  | cons b l ih =>
    rw [List.cons_append, cutS, if_neg (h b (by simp)), ih (fun x hx => h x (by simp [hx]))]
theorem wrd_no {n : Nat} : ∀ b ∈ wrdK n, b ≠ 32 := by
  match n with
  | 0 => decide
  | 1 => decide
  | n + 2 => show ∀ b ∈ [108, 111, 115, 116], b ≠ 32; decide
theorem wrd_num {n : Nat} : numS (wrdK n) = true := by
  match n with
  | 0 => rfl
  | 1 => rfl
  | n + 2 => rfl
theorem wrd_ne {n m : Nat} (hn : n < 3) (hm : m < 3) (h : n ≠ m) : wrdK n ≠ wrdK m := by
  have hx : n = 0 ∨ n = 1 ∨ n = 2 := by omega
  have hy : m = 0 ∨ m = 1 ∨ m = 2 := by omega
  rcases hx with rfl | rfl | rfl <;> rcases hy with rfl | rfl | rfl <;> first | exact absurd rfl h | decide
theorem srt_num {n : Nat} {a : B} : srtS (wrdK n ++ 32 :: a) = wrdK n := by
  rw [srtS, cut_no wrd_no, if_pos wrd_num]
theorem ass_no : ∀ b ∈ ([97, 115, 115, 101, 114, 116] : B), b ≠ 32 := by decide
theorem srt_ass {a : B} : srtS ([97, 115, 115, 101, 114, 116] ++ 32 :: a) = [97, 115, 115, 101, 114, 116] ++ 32 :: a := by
  rw [srtS, cut_no ass_no, if_neg (by rw [num_ass]; decide)]
theorem fld_vld {r : Rz} (h : r.sg ≠ []) : fldS r = vldS r := by rw [fldS, dt h, Bool.and_true]
/-- x: with a word and a number; p: with a name -/
def xR (n : Nat) (a : B) : Rz := mkR (wrdK n ++ 32 :: a)
def pR (a : B) : Rz := mkR ([97, 115, 115, 101, 114, 116] ++ 32 :: a)
theorem xR_ne {n : Nat} {a : B} : (xR n a).sg ≠ [] := by show wrdK n ++ 32 :: a ≠ []; simp
theorem pR_ne {a : B} : (pR a).sg ≠ [] := by show ([97, 115, 115, 101, 114, 116] ++ 32 :: a : B) ≠ []; simp
theorem sam_xx {n : Nat} {a b : B} (ha : vldS (xR n a) = true) (hb : vldS (xR n b) = true) : samS (xR n a) (xR n b) = true := by
  rw [samS, fld_vld xR_ne, fld_vld xR_ne, ha, hb, Bool.true_and, Bool.true_and]
  exact dt (by show srtS (wrdK n ++ 32 :: a) = srtS (wrdK n ++ 32 :: b); rw [srt_num, srt_num])
theorem sam_xy {n m : Nat} {a b : B} (hn : n < 3) (hm : m < 3) (h : n ≠ m) : samS (xR n a) (xR m b) = false := by
  have : ¬ srtS (xR n a).sg = srtS (xR m b).sg := by
    show ¬ srtS (wrdK n ++ 32 :: a) = srtS (wrdK m ++ 32 :: b)
    rw [srt_num, srt_num]; exact wrd_ne hn hm h
  rw [samS, df this, Bool.and_false, Bool.and_false]
theorem sam_pp {a b : B} (ha : vldS (pR a) = true) (hb : vldS (pR b) = true) : samS (pR a) (pR b) = decide (a = b) := by
  rw [samS, fld_vld pR_ne, fld_vld pR_ne, ha, hb, Bool.true_and, Bool.true_and]
  refine decide_eq_decide.2 ?_
  show srtS ([97, 115, 115, 101, 114, 116] ++ 32 :: a) = srtS ([97, 115, 115, 101, 114, 116] ++ 32 :: b) ↔ a = b
  rw [srt_ass, srt_ass]
  simp
theorem sam_px {n : Nat} {a b : B} (hn : n < 3) : samS (pR a) (xR n b) = false := by
  have : ¬ srtS (pR a).sg = srtS (xR n b).sg := by
    show ¬ srtS ([97, 115, 115, 101, 114, 116] ++ 32 :: a) = srtS (wrdK n ++ 32 :: b)
    rw [srt_ass, srt_num]
    intro h
    have : (32 : UInt8) ∈ wrdK n := by rw [← h]; simp
    exact wrd_no 32 this rfl
  rw [samS, df this, Bool.and_false, Bool.and_false]
theorem okR_mk {s : B} (h : s.length ≤ 1000) : okR (mkR s) := by
  have := mL
  exact ⟨by show 1 ≤ maxLen; omega, by show 1 ≤ maxLen; omega, by show s.length ≤ maxLen; omega⟩
theorem wrd_len {n : Nat} : (wrdK n).length ≤ 8 := by
  match n with
  | 0 => decide
  | 1 => decide
  | n + 2 => show 4 ≤ 8; decide
theorem wrd_app {n : Nat} {a : B} : wrdK n ++ [32] ++ a = wrdK n ++ 32 :: a := by rw [List.append_assoc]; rfl
theorem t25x (n : Nat) (a : B) : CallP Tryd.prog 25 [.d (.str (wrdK n ++ 32 :: a))] (rzV (xR n a)) := t25 _
theorem t25p (a : B) : CallP Tryd.prog 25 [.d (.str (97 :: 115 :: 115 :: 101 :: 114 :: 116 :: 32 :: a))] (rzV (pR a)) := t25 _
set_option maxRecDepth 100000 in
set_option maxHeartbeats 1000000 in
theorem l7 (a b : B) (kd : Int) (ha : a.length ≤ reachBytes) (hb : b.length ≤ reachBytes) (hk : 0 ≤ kd ∧ kd ≤ 255) : CallP Tryd.prog 7 [.d (.str a), .d (.str b), .d (.int .u8 kd)] (.d (.bool true)) := by
  have hm := hm
  have hre : reachBytes = 140737488351232 := rfl
  obtain ⟨n, hn, hn3⟩ : ∃ n : Nat, kd.tmod 3 = (n : Int) ∧ n < 3 := ⟨(kd.tmod 3).toNat, by
    rw [Int.tmod_eq_emod_of_nonneg hk.1]; omega, by rw [Int.tmod_eq_emod_of_nonneg hk.1]; omega⟩
  have hwl := wrd_len (n := n)
  refine go7 (AC.at AC.wk [1, 1, 1, 1, 1, 1] ac7) rfl ?_
  simp only [vx, vz, Nat.reduceAdd, Nat.reduceSub, Nat.reduceMul, Nat.reduceLeDiff, Nat.reduceLT, Nat.reduceEqDiff, Nat.reduceBEq, Int.reduceToNat, Int.reduceNeg, Int.reduceEq, Int.reduceNe, Int.reduceLE, Int.reduceLT, reduceCtorEq, ↓reduceIte, ac7, AC.at, hn]
  refine ⟨by omega, by omega, by omega, getA_iff.2 ⟨_, by rw [Nat.mul_one]; exact wrd_at hn3, ?_⟩⟩
  simp only [vx, vz, Nat.reduceAdd, Nat.reduceSub, Nat.reduceMul, Nat.reduceLeDiff, Nat.reduceLT, Nat.reduceEqDiff, Nat.reduceBEq, Int.reduceToNat, Int.reduceNeg, Int.reduceEq, Int.reduceNe, Int.reduceLE, Int.reduceLT, reduceCtorEq, ↓reduceIte]
  refine ⟨by omega, by omega, ?_⟩
  rw [wrd_app]
  refine call_p rfl (t25x n a) ?_
  simp only [vx, vz, Nat.reduceAdd, Nat.reduceSub, Nat.reduceMul, Nat.reduceLeDiff, Nat.reduceLT, Nat.reduceEqDiff, Nat.reduceBEq, Int.reduceToNat, Int.reduceNeg, Int.reduceEq, Int.reduceNe, Int.reduceLE, Int.reduceLT, reduceCtorEq, ↓reduceIte, hn]
  refine ⟨by omega, by omega, by omega, getA_iff.2 ⟨_, by rw [Nat.mul_one]; exact wrd_at hn3, ?_⟩⟩
  simp only [vx, vz, Nat.reduceAdd, Nat.reduceSub, Nat.reduceMul, Nat.reduceLeDiff, Nat.reduceLT, Nat.reduceEqDiff, Nat.reduceBEq, Int.reduceToNat, Int.reduceNeg, Int.reduceEq, Int.reduceNe, Int.reduceLE, Int.reduceLT, reduceCtorEq, ↓reduceIte]
  refine ⟨by omega, by omega, ?_⟩
  rw [wrd_app]
  refine call_p rfl (t25x n b) ?_
  simp only [vx, vz, Nat.reduceAdd, Nat.reduceSub, Nat.reduceMul, Nat.reduceLeDiff, Nat.reduceLT, Nat.reduceEqDiff, Nat.reduceBEq, Int.reduceToNat, Int.reduceNeg, Int.reduceEq, Int.reduceNe, Int.reduceLE, Int.reduceLT, reduceCtorEq, ↓reduceIte]
  by_cases h1 : 16 < (a.length : Int)
  · simp only [vx, vz, Nat.reduceAdd, Nat.reduceSub, Nat.reduceMul, Nat.reduceLeDiff, Nat.reduceLT, Nat.reduceEqDiff, Nat.reduceBEq, Int.reduceToNat, Int.reduceNeg, Int.reduceEq, Int.reduceNe, Int.reduceLE, Int.reduceLT, reduceCtorEq, ↓reduceIte, dt h1]
    refine call_p rfl (t10) ?_
    simp only [vx, vz, Nat.reduceAdd, Nat.reduceSub, Nat.reduceMul, Nat.reduceLeDiff, Nat.reduceLT, Nat.reduceEqDiff, Nat.reduceBEq, Int.reduceToNat, Int.reduceNeg, Int.reduceEq, Int.reduceNe, Int.reduceLE, Int.reduceLT, reduceCtorEq, ↓reduceIte]
  · by_cases h2 : 16 < (b.length : Int)
    · simp only [vx, vz, Nat.reduceAdd, Nat.reduceSub, Nat.reduceMul, Nat.reduceLeDiff, Nat.reduceLT, Nat.reduceEqDiff, Nat.reduceBEq, Int.reduceToNat, Int.reduceNeg, Int.reduceEq, Int.reduceNe, Int.reduceLE, Int.reduceLT, reduceCtorEq, ↓reduceIte, df h1, dt h2]
      refine call_p rfl (t10) ?_
      simp only [vx, vz, Nat.reduceAdd, Nat.reduceSub, Nat.reduceMul, Nat.reduceLeDiff, Nat.reduceLT, Nat.reduceEqDiff, Nat.reduceBEq, Int.reduceToNat, Int.reduceNeg, Int.reduceEq, Int.reduceNe, Int.reduceLE, Int.reduceLT, reduceCtorEq, ↓reduceIte]
    · simp only [vx, vz, Nat.reduceAdd, Nat.reduceSub, Nat.reduceMul, Nat.reduceLeDiff, Nat.reduceLT, Nat.reduceEqDiff, Nat.reduceBEq, Int.reduceToNat, Int.reduceNeg, Int.reduceEq, Int.reduceNe, Int.reduceLE, Int.reduceLT, reduceCtorEq, ↓reduceIte, df h1, df h2]
      have okx : okR (xR n a) := okR_mk (by simp only [List.length_append, List.length_cons]; omega)
      have oky : okR (xR n b) := okR_mk (by simp only [List.length_append, List.length_cons]; omega)
      have okp : okR (pR a) := okR_mk (by simp only [List.length_append, List.length_cons, List.length_nil]; omega)
      have okq : okR (pR b) := okR_mk (by simp only [List.length_append, List.length_cons, List.length_nil]; omega)
      obtain ⟨m, hm3, hm3l, hne⟩ : ∃ m : Nat, (IntKind.u8.wrap ((n : Int) + 1)).tmod 3 = (m : Int) ∧ m < 3 ∧ n ≠ m := ⟨(n + 1) % 3, by
        rw [wrap_u rfl, show (((n : Int) + 1) % (2 ^ IntKind.u8.bits : Int)) = (n : Int) + 1 by show _ % (2 ^ 8 : Int) = _; omega, Int.tmod_eq_emod_of_nonneg (by omega)]; omega, by omega, by omega⟩
      have okz : okR (xR m a) := okR_mk (by have := wrd_len (n := m); simp only [List.length_append, List.length_cons]; omega)
      have hml := wrd_len (n := m)
      have main : wpC Tryd.prog 0 (AC.sub [1, 1, 1, 1, 1, 1] ac7) (retQ [.tmp 6] (.d (.bool true))) ⟨mkF 96 [(0, .d (.str a)), (1, .d (.str b)), (8, .optr 11 1 1 0 0)], [.live 3 [[.d (.str [109, 105, 115, 109, 97, 116, 99, 104]), .d (.str [101, 120, 116, 114, 97]), .d (.str [108, 111, 115, 116])]], .live 11 [(xR n a).d.map .d], .live 11 [(xR n b).d.map .d]]⟩ := by
        simp only [vx, vz, Nat.reduceAdd, Nat.reduceSub, Nat.reduceMul, Nat.reduceLeDiff, Nat.reduceLT, Nat.reduceEqDiff, Nat.reduceBEq, Int.reduceToNat, Int.reduceNeg, Int.reduceEq, Int.reduceNe, Int.reduceLE, Int.reduceLT, reduceCtorEq, ↓reduceIte, ac7, AC.sub, Rz.d]
        refine ⟨by omega, ?_⟩
        refine call_p rfl (t25p a) ?_
        simp only [vx, vz, Nat.reduceAdd, Nat.reduceSub, Nat.reduceMul, Nat.reduceLeDiff, Nat.reduceLT, Nat.reduceEqDiff, Nat.reduceBEq, Int.reduceToNat, Int.reduceNeg, Int.reduceEq, Int.reduceNe, Int.reduceLE, Int.reduceLT, reduceCtorEq, ↓reduceIte]
        refine ⟨by omega, ?_⟩
        refine call_p rfl (t25p b) ?_
        simp only [vx, vz, Nat.reduceAdd, Nat.reduceSub, Nat.reduceMul, Nat.reduceLeDiff, Nat.reduceLT, Nat.reduceEqDiff, Nat.reduceBEq, Int.reduceToNat, Int.reduceNeg, Int.reduceEq, Int.reduceNe, Int.reduceLE, Int.reduceLT, reduceCtorEq, ↓reduceIte]
        refine call_p rfl (t13 _ okp) ?_
        simp only [vx, vz, Nat.reduceAdd, Nat.reduceSub, Nat.reduceMul, Nat.reduceLeDiff, Nat.reduceLT, Nat.reduceEqDiff, Nat.reduceBEq, Int.reduceToNat, Int.reduceNeg, Int.reduceEq, Int.reduceNe, Int.reduceLE, Int.reduceLT, reduceCtorEq, ↓reduceIte]
        have fin : ∀ {K : Prop}, K → K := fun h => h
        cases hvp : vldS (pR a) with
        | false =>
          simp only [vx, vz, Nat.reduceAdd, Nat.reduceSub, Nat.reduceMul, Nat.reduceLeDiff, Nat.reduceLT, Nat.reduceEqDiff, Nat.reduceBEq, Int.reduceToNat, Int.reduceNeg, Int.reduceEq, Int.reduceNe, Int.reduceLE, Int.reduceLT, reduceCtorEq, ↓reduceIte]
          refine call_p rfl (t21 _ _ okp okx) ?_
          simp only [vx, vz, Nat.reduceAdd, Nat.reduceSub, Nat.reduceMul, Nat.reduceLeDiff, Nat.reduceLT, Nat.reduceEqDiff, Nat.reduceBEq, Int.reduceToNat, Int.reduceNeg, Int.reduceEq, Int.reduceNe, Int.reduceLE, Int.reduceLT, reduceCtorEq, ↓reduceIte]
          rw [sam_px hn3]
          simp only [vx, vz, Nat.reduceAdd, Nat.reduceSub, Nat.reduceMul, Nat.reduceLeDiff, Nat.reduceLT, Nat.reduceEqDiff, Nat.reduceBEq, Int.reduceToNat, Int.reduceNeg, Int.reduceEq, Int.reduceNe, Int.reduceLE, Int.reduceLT, reduceCtorEq, ↓reduceIte]
          refine call_p rfl (t10) ?_
          simp only [vx, vz, Nat.reduceAdd, Nat.reduceSub, Nat.reduceMul, Nat.reduceLeDiff, Nat.reduceLT, Nat.reduceEqDiff, Nat.reduceBEq, Int.reduceToNat, Int.reduceNeg, Int.reduceEq, Int.reduceNe, Int.reduceLE, Int.reduceLT, reduceCtorEq, ↓reduceIte]
        | true =>
          simp only [vx, vz, Nat.reduceAdd, Nat.reduceSub, Nat.reduceMul, Nat.reduceLeDiff, Nat.reduceLT, Nat.reduceEqDiff, Nat.reduceBEq, Int.reduceToNat, Int.reduceNeg, Int.reduceEq, Int.reduceNe, Int.reduceLE, Int.reduceLT, reduceCtorEq, ↓reduceIte]
          refine call_p rfl (t13 _ okq) ?_
          simp only [vx, vz, Nat.reduceAdd, Nat.reduceSub, Nat.reduceMul, Nat.reduceLeDiff, Nat.reduceLT, Nat.reduceEqDiff, Nat.reduceBEq, Int.reduceToNat, Int.reduceNeg, Int.reduceEq, Int.reduceNe, Int.reduceLE, Int.reduceLT, reduceCtorEq, ↓reduceIte]
          cases hvq : vldS (pR b) with
          | false =>
            simp only [vx, vz, Nat.reduceAdd, Nat.reduceSub, Nat.reduceMul, Nat.reduceLeDiff, Nat.reduceLT, Nat.reduceEqDiff, Nat.reduceBEq, Int.reduceToNat, Int.reduceNeg, Int.reduceEq, Int.reduceNe, Int.reduceLE, Int.reduceLT, reduceCtorEq, ↓reduceIte]
            refine call_p rfl (t21 _ _ okp okx) ?_
            simp only [vx, vz, Nat.reduceAdd, Nat.reduceSub, Nat.reduceMul, Nat.reduceLeDiff, Nat.reduceLT, Nat.reduceEqDiff, Nat.reduceBEq, Int.reduceToNat, Int.reduceNeg, Int.reduceEq, Int.reduceNe, Int.reduceLE, Int.reduceLT, reduceCtorEq, ↓reduceIte]
            rw [sam_px hn3]
            simp only [vx, vz, Nat.reduceAdd, Nat.reduceSub, Nat.reduceMul, Nat.reduceLeDiff, Nat.reduceLT, Nat.reduceEqDiff, Nat.reduceBEq, Int.reduceToNat, Int.reduceNeg, Int.reduceEq, Int.reduceNe, Int.reduceLE, Int.reduceLT, reduceCtorEq, ↓reduceIte]
            refine call_p rfl (t10) ?_
            simp only [vx, vz, Nat.reduceAdd, Nat.reduceSub, Nat.reduceMul, Nat.reduceLeDiff, Nat.reduceLT, Nat.reduceEqDiff, Nat.reduceBEq, Int.reduceToNat, Int.reduceNeg, Int.reduceEq, Int.reduceNe, Int.reduceLE, Int.reduceLT, reduceCtorEq, ↓reduceIte]
          | true =>
            simp only [vx, vz, Nat.reduceAdd, Nat.reduceSub, Nat.reduceMul, Nat.reduceLeDiff, Nat.reduceLT, Nat.reduceEqDiff, Nat.reduceBEq, Int.reduceToNat, Int.reduceNeg, Int.reduceEq, Int.reduceNe, Int.reduceLE, Int.reduceLT, reduceCtorEq, ↓reduceIte]
            refine call_p rfl (t21 _ _ okp okq) ?_
            simp only [vx, vz, Nat.reduceAdd, Nat.reduceSub, Nat.reduceMul, Nat.reduceLeDiff, Nat.reduceLT, Nat.reduceEqDiff, Nat.reduceBEq, Int.reduceToNat, Int.reduceNeg, Int.reduceEq, Int.reduceNe, Int.reduceLE, Int.reduceLT, reduceCtorEq, ↓reduceIte]
            rw [sam_pp hvp hvq]
            simp only [vx, vz, Nat.reduceAdd, Nat.reduceSub, Nat.reduceMul, Nat.reduceLeDiff, Nat.reduceLT, Nat.reduceEqDiff, Nat.reduceBEq, Int.reduceToNat, Int.reduceNeg, Int.reduceEq, Int.reduceNe, Int.reduceLE, Int.reduceLT, reduceCtorEq, ↓reduceIte]
            refine call_p rfl (t21 _ _ okp okx) ?_
            simp only [vx, vz, Nat.reduceAdd, Nat.reduceSub, Nat.reduceMul, Nat.reduceLeDiff, Nat.reduceLT, Nat.reduceEqDiff, Nat.reduceBEq, Int.reduceToNat, Int.reduceNeg, Int.reduceEq, Int.reduceNe, Int.reduceLE, Int.reduceLT, reduceCtorEq, ↓reduceIte]
            rw [sam_px hn3]
            simp only [vx, vz, Nat.reduceAdd, Nat.reduceSub, Nat.reduceMul, Nat.reduceLeDiff, Nat.reduceLT, Nat.reduceEqDiff, Nat.reduceBEq, Int.reduceToNat, Int.reduceNeg, Int.reduceEq, Int.reduceNe, Int.reduceLE, Int.reduceLT, reduceCtorEq, ↓reduceIte]
            refine call_p rfl (t10) ?_
            simp only [vx, vz, Nat.reduceAdd, Nat.reduceSub, Nat.reduceMul, Nat.reduceLeDiff, Nat.reduceLT, Nat.reduceEqDiff, Nat.reduceBEq, Int.reduceToNat, Int.reduceNeg, Int.reduceEq, Int.reduceNe, Int.reduceLE, Int.reduceLT, reduceCtorEq, ↓reduceIte]
      refine c_quiet rfl ?_
      simp only [vx, vz, Nat.reduceAdd, Nat.reduceSub, Nat.reduceMul, Nat.reduceLeDiff, Nat.reduceLT, Nat.reduceEqDiff, Nat.reduceBEq, Int.reduceToNat, Int.reduceNeg, Int.reduceEq, Int.reduceNe, Int.reduceLE, Int.reduceLT, reduceCtorEq, ↓reduceIte]
      refine call_p rfl (t13 _ okx) ?_
      simp only [vx, vz, Nat.reduceAdd, Nat.reduceSub, Nat.reduceMul, Nat.reduceLeDiff, Nat.reduceLT, Nat.reduceEqDiff, Nat.reduceBEq, Int.reduceToNat, Int.reduceNeg, Int.reduceEq, Int.reduceNe, Int.reduceLE, Int.reduceLT, reduceCtorEq, ↓reduceIte]
      cases hvx : vldS (xR n a) with
      | false =>
        simp only [vx, vz, Nat.reduceAdd, Nat.reduceSub, Nat.reduceMul, Nat.reduceLeDiff, Nat.reduceLT, Nat.reduceEqDiff, Nat.reduceBEq, Int.reduceToNat, Int.reduceNeg, Int.reduceEq, Int.reduceNe, Int.reduceLE, Int.reduceLT, reduceCtorEq, ↓reduceIte]
        refine call_p rfl (t13 _ okx) ?_
        simp only [vx, vz, Nat.reduceAdd, Nat.reduceSub, Nat.reduceMul, Nat.reduceLeDiff, Nat.reduceLT, Nat.reduceEqDiff, Nat.reduceBEq, Int.reduceToNat, Int.reduceNeg, Int.reduceEq, Int.reduceNe, Int.reduceLE, Int.reduceLT, reduceCtorEq, ↓reduceIte, hvx]
        exact wk_in _ (weak_any (by simp only [vx, vz, Nat.reduceAdd, Nat.reduceSub, Nat.reduceMul, Nat.reduceLeDiff, Nat.reduceLT, Nat.reduceEqDiff, Nat.reduceBEq, Int.reduceToNat, Int.reduceNeg, Int.reduceEq, Int.reduceNe, Int.reduceLE, Int.reduceLT, reduceCtorEq, ↓reduceIte]; try trivial)) main
      | true =>
        simp only [vx, vz, Nat.reduceAdd, Nat.reduceSub, Nat.reduceMul, Nat.reduceLeDiff, Nat.reduceLT, Nat.reduceEqDiff, Nat.reduceBEq, Int.reduceToNat, Int.reduceNeg, Int.reduceEq, Int.reduceNe, Int.reduceLE, Int.reduceLT, reduceCtorEq, ↓reduceIte]
        refine call_p rfl (t13 _ oky) ?_
        simp only [vx, vz, Nat.reduceAdd, Nat.reduceSub, Nat.reduceMul, Nat.reduceLeDiff, Nat.reduceLT, Nat.reduceEqDiff, Nat.reduceBEq, Int.reduceToNat, Int.reduceNeg, Int.reduceEq, Int.reduceNe, Int.reduceLE, Int.reduceLT, reduceCtorEq, ↓reduceIte]
        cases hvy : vldS (xR n b) with
        | false =>
          simp only [vx, vz, Nat.reduceAdd, Nat.reduceSub, Nat.reduceMul, Nat.reduceLeDiff, Nat.reduceLT, Nat.reduceEqDiff, Nat.reduceBEq, Int.reduceToNat, Int.reduceNeg, Int.reduceEq, Int.reduceNe, Int.reduceLE, Int.reduceLT, reduceCtorEq, ↓reduceIte]
          refine call_p rfl (t13 _ okx) ?_
          simp only [vx, vz, Nat.reduceAdd, Nat.reduceSub, Nat.reduceMul, Nat.reduceLeDiff, Nat.reduceLT, Nat.reduceEqDiff, Nat.reduceBEq, Int.reduceToNat, Int.reduceNeg, Int.reduceEq, Int.reduceNe, Int.reduceLE, Int.reduceLT, reduceCtorEq, ↓reduceIte, hvx, hn, hm3]
          refine ⟨by omega, by omega, by omega, getA_iff.2 ⟨_, by rw [Nat.mul_one]; exact wrd_at hm3l, ?_⟩⟩
          simp only [vx, vz, Nat.reduceAdd, Nat.reduceSub, Nat.reduceMul, Nat.reduceLeDiff, Nat.reduceLT, Nat.reduceEqDiff, Nat.reduceBEq, Int.reduceToNat, Int.reduceNeg, Int.reduceEq, Int.reduceNe, Int.reduceLE, Int.reduceLT, reduceCtorEq, ↓reduceIte]
          refine ⟨by omega, by omega, ?_⟩
          rw [wrd_app]
          refine call_p rfl (t25x m a) ?_
          simp only [vx, vz, Nat.reduceAdd, Nat.reduceSub, Nat.reduceMul, Nat.reduceLeDiff, Nat.reduceLT, Nat.reduceEqDiff, Nat.reduceBEq, Int.reduceToNat, Int.reduceNeg, Int.reduceEq, Int.reduceNe, Int.reduceLE, Int.reduceLT, reduceCtorEq, ↓reduceIte]
          refine call_p rfl (t21 _ _ okx okz) ?_
          simp only [vx, vz, Nat.reduceAdd, Nat.reduceSub, Nat.reduceMul, Nat.reduceLeDiff, Nat.reduceLT, Nat.reduceEqDiff, Nat.reduceBEq, Int.reduceToNat, Int.reduceNeg, Int.reduceEq, Int.reduceNe, Int.reduceLE, Int.reduceLT, reduceCtorEq, ↓reduceIte]
          rw [sam_xy hn3 hm3l hne]
          simp only [vx, vz, Nat.reduceAdd, Nat.reduceSub, Nat.reduceMul, Nat.reduceLeDiff, Nat.reduceLT, Nat.reduceEqDiff, Nat.reduceBEq, Int.reduceToNat, Int.reduceNeg, Int.reduceEq, Int.reduceNe, Int.reduceLE, Int.reduceLT, reduceCtorEq, ↓reduceIte]
          exact wk_in _ (weak_any (by simp only [vx, vz, Nat.reduceAdd, Nat.reduceSub, Nat.reduceMul, Nat.reduceLeDiff, Nat.reduceLT, Nat.reduceEqDiff, Nat.reduceBEq, Int.reduceToNat, Int.reduceNeg, Int.reduceEq, Int.reduceNe, Int.reduceLE, Int.reduceLT, reduceCtorEq, ↓reduceIte]; try trivial)) main
        | true =>
          simp only [vx, vz, Nat.reduceAdd, Nat.reduceSub, Nat.reduceMul, Nat.reduceLeDiff, Nat.reduceLT, Nat.reduceEqDiff, Nat.reduceBEq, Int.reduceToNat, Int.reduceNeg, Int.reduceEq, Int.reduceNe, Int.reduceLE, Int.reduceLT, reduceCtorEq, ↓reduceIte]
          refine call_p rfl (t21 _ _ okx oky) ?_
          simp only [vx, vz, Nat.reduceAdd, Nat.reduceSub, Nat.reduceMul, Nat.reduceLeDiff, Nat.reduceLT, Nat.reduceEqDiff, Nat.reduceBEq, Int.reduceToNat, Int.reduceNeg, Int.reduceEq, Int.reduceNe, Int.reduceLE, Int.reduceLT, reduceCtorEq, ↓reduceIte]
          rw [sam_xx hvx hvy]
          simp only [vx, vz, Nat.reduceAdd, Nat.reduceSub, Nat.reduceMul, Nat.reduceLeDiff, Nat.reduceLT, Nat.reduceEqDiff, Nat.reduceBEq, Int.reduceToNat, Int.reduceNeg, Int.reduceEq, Int.reduceNe, Int.reduceLE, Int.reduceLT, reduceCtorEq, ↓reduceIte]
          refine call_p rfl (t13 _ okx) ?_
          simp only [vx, vz, Nat.reduceAdd, Nat.reduceSub, Nat.reduceMul, Nat.reduceLeDiff, Nat.reduceLT, Nat.reduceEqDiff, Nat.reduceBEq, Int.reduceToNat, Int.reduceNeg, Int.reduceEq, Int.reduceNe, Int.reduceLE, Int.reduceLT, reduceCtorEq, ↓reduceIte, hvx, hn, hm3]
          refine ⟨by omega, by omega, by omega, getA_iff.2 ⟨_, by rw [Nat.mul_one]; exact wrd_at hm3l, ?_⟩⟩
          simp only [vx, vz, Nat.reduceAdd, Nat.reduceSub, Nat.reduceMul, Nat.reduceLeDiff, Nat.reduceLT, Nat.reduceEqDiff, Nat.reduceBEq, Int.reduceToNat, Int.reduceNeg, Int.reduceEq, Int.reduceNe, Int.reduceLE, Int.reduceLT, reduceCtorEq, ↓reduceIte]
          refine ⟨by omega, by omega, ?_⟩
          rw [wrd_app]
          refine call_p rfl (t25x m a) ?_
          simp only [vx, vz, Nat.reduceAdd, Nat.reduceSub, Nat.reduceMul, Nat.reduceLeDiff, Nat.reduceLT, Nat.reduceEqDiff, Nat.reduceBEq, Int.reduceToNat, Int.reduceNeg, Int.reduceEq, Int.reduceNe, Int.reduceLE, Int.reduceLT, reduceCtorEq, ↓reduceIte]
          refine call_p rfl (t21 _ _ okx okz) ?_
          simp only [vx, vz, Nat.reduceAdd, Nat.reduceSub, Nat.reduceMul, Nat.reduceLeDiff, Nat.reduceLT, Nat.reduceEqDiff, Nat.reduceBEq, Int.reduceToNat, Int.reduceNeg, Int.reduceEq, Int.reduceNe, Int.reduceLE, Int.reduceLT, reduceCtorEq, ↓reduceIte]
          rw [sam_xy hn3 hm3l hne]
          simp only [vx, vz, Nat.reduceAdd, Nat.reduceSub, Nat.reduceMul, Nat.reduceLeDiff, Nat.reduceLT, Nat.reduceEqDiff, Nat.reduceBEq, Int.reduceToNat, Int.reduceNeg, Int.reduceEq, Int.reduceNe, Int.reduceLE, Int.reduceLT, reduceCtorEq, ↓reduceIte]
          exact wk_in _ (weak_any (by simp only [vx, vz, Nat.reduceAdd, Nat.reduceSub, Nat.reduceMul, Nat.reduceLeDiff, Nat.reduceLT, Nat.reduceEqDiff, Nat.reduceBEq, Int.reduceToNat, Int.reduceNeg, Int.reduceEq, Int.reduceNe, Int.reduceLE, Int.reduceLT, reduceCtorEq, ↓reduceIte]; try trivial)) main
end Go.Proofs.Sg
