import Derived.Test.YtfoncpamepepmaaS
import Derived.Test.YtfoncpamepepmaaVxBv
set_option linter.unusedSimpArgs false
set_option linter.unusedVariables false
namespace Go.Proofs.Ar.Rg
open Go.Vx

abbrev B := List UInt8
abbrev W := BitVec 64
theorem dt {p : Prop} [Decidable p] (h : p) : decide p = true := decide_eq_true h
theorem df {p : Prop} [Decidable p] (h : ¬ p) : decide p = false := decide_eq_false h
theorem hm : (maxLen : Int) ≤ 9223372036854775807 := by decide
theorem get_ex {α : Type} {l : List α} {i : Nat} (h : i < l.length) : ∃ x, l[i]? = some x := ⟨_, List.getElem?_eq_getElem h⟩
theorem getI_at {α : Type} {l : List α} {i : Nat} {x : α} {g : α → Prop} (h : l[i]? = some x) (hk : g x) : getA l i g := getA_iff.2 ⟨x, h, hk⟩
theorem drop_at {α : Type} {l : List α} {i : Nat} {x : α} (h : l[i]? = some x) : l.drop i = x :: l.drop (i + 1) := by
  obtain ⟨h1, h2⟩ := List.getElem?_eq_some_iff.1 h
  rw [List.drop_eq_getElem_cons h1, h2]
theorem drop_end {α : Type} {l : List α} {i : Nat} (h : l.length ≤ i) : l.drop i = [] := List.drop_eq_nil_of_le h

abbrev w64 (x : W) : V := .d (.int .u64 (x.toNat : Int))
abbrev w32 (x : BitVec 32) : V := .d (.int .u32 (x.toNat : Int))
def c1 : W := 13787848793156543929#64
def c2 : W := 10723151780598845931#64
def gold : W := 11400714819323198485#64
theorem c1_nat : (13787848793156543929 : Int) = (c1.toNat : Int) := by decide
theorem c2_nat : (10723151780598845931 : Int) = (c2.toNat : Int) := by decide
theorem gold_nat : (11400714819323198485 : Int) = (gold.toNat : Int) := by decide
theorem one_nat : (1 : Int) = ((1#64 : W).toNat : Int) := by decide
def finS (x : W) : W :=
  let a := (x ^^^ x >>> 30) * c1
  let b := (a ^^^ a >>> 27) * c2
  b ^^^ b >>> 31
theorem t54 (x : W) : CallP Try.prog 54 [w64 x] (w64 (finS x)) := by
  refine go54 ac54 rfl ?_
  simp only [vx, vz, Nat.reduceAdd, Nat.reduceSub, Nat.reduceMul, Nat.reduceLeDiff, Nat.reduceLT, Nat.reduceEqDiff, Nat.reduceBEq, Int.reduceToNat, Int.reduceNeg, Int.reduceEq, Int.reduceNe, Int.reduceLE, Int.reduceLT, reduceCtorEq, ↓reduceIte, ac54, c1_nat, c2_nat, mul64, xor64]
  simp only [shr64 _ _ (show 30 ≤ 64 by decide), shr64 _ _ (show 27 ≤ 64 by decide), shr64 _ _ (show 31 ≤ 64 by decide), xor64, mul64, finS]
theorem t55 (x : W) : CallP Try.prog 55 [w64 x] (w64 (finS x)) := by
  refine go55 ac55 rfl ?_
  simp only [vx, vz, Nat.reduceAdd, Nat.reduceSub, Nat.reduceMul, Nat.reduceLeDiff, Nat.reduceLT, Nat.reduceEqDiff, Nat.reduceBEq, Int.reduceToNat, Int.reduceNeg, Int.reduceEq, Int.reduceNe, Int.reduceLE, Int.reduceLT, reduceCtorEq, ↓reduceIte, ac55, c1_nat, c2_nat, mul64, xor64]
  simp only [shr64 _ _ (show 30 ≤ 64 by decide), shr64 _ _ (show 27 ≤ 64 by decide), shr64 _ _ (show 31 ≤ 64 by decide), xor64, mul64, finS]
def mixS (a b : W) : W := finS (a + gold * (b + 1#64))
theorem t52 (a b : W) : CallP Try.prog 52 [w64 a, w64 b] (w64 (mixS a b)) := by
  refine go52 ac52 rfl ?_
  simp only [vx, vz, Nat.reduceAdd, Nat.reduceSub, Nat.reduceMul, Nat.reduceLeDiff, Nat.reduceLT, Nat.reduceEqDiff, Nat.reduceBEq, Int.reduceToNat, Int.reduceNeg, Int.reduceEq, Int.reduceNe, Int.reduceLE, Int.reduceLT, reduceCtorEq, ↓reduceIte, ac52, gold_nat, one_nat, add64, mul64]
  refine call_p rfl (t54 _) ?_
  simp only [vx, vz, Nat.reduceAdd, Nat.reduceSub, Nat.reduceMul, Nat.reduceLeDiff, Nat.reduceLT, Nat.reduceEqDiff, Nat.reduceBEq, Int.reduceToNat, Int.reduceNeg, Int.reduceEq, Int.reduceNe, Int.reduceLE, Int.reduceLT, reduceCtorEq, ↓reduceIte]
  rfl
theorem t53 (a b : W) : CallP Try.prog 53 [w64 a, w64 b] (w64 (mixS a b)) := by
  refine go53 ac53 rfl ?_
  simp only [vx, vz, Nat.reduceAdd, Nat.reduceSub, Nat.reduceMul, Nat.reduceLeDiff, Nat.reduceLT, Nat.reduceEqDiff, Nat.reduceBEq, Int.reduceToNat, Int.reduceNeg, Int.reduceEq, Int.reduceNe, Int.reduceLE, Int.reduceLT, reduceCtorEq, ↓reduceIte, ac53, gold_nat, one_nat, add64, mul64]
  refine call_p rfl (t55 _) ?_
  simp only [vx, vz, Nat.reduceAdd, Nat.reduceSub, Nat.reduceMul, Nat.reduceLeDiff, Nat.reduceLT, Nat.reduceEqDiff, Nat.reduceBEq, Int.reduceToNat, Int.reduceNeg, Int.reduceEq, Int.reduceNe, Int.reduceLE, Int.reduceLT, reduceCtorEq, ↓reduceIte]
  rfl

def basis : W := 14695981039346656037#64
def prime : W := 1099511628211#64
theorem prime_nat : (1099511628211 : Int) = (prime.toNat : Int) := by decide
def hasStep (h : W) (b : UInt8) : W := (h ^^^ b64 b) * prime
def hasS (s : B) : W := s.foldl hasStep basis
theorem basis_nat : (14695981039346656037 : Int) = (basis.toNat : Int) := by decide
end Go.Proofs.Ar.Rg

namespace Go.Proofs.Ar.Rg
open Go.Vx
def unS (y : W) (n : Nat) (x : W) : W := y ^^^ x >>> n
theorem unS_ok (x : W) (n : Nat) (hn : 22 ≤ n) : unS (x ^^^ x >>> n) n (unS (x ^^^ x >>> n) n (x ^^^ x >>> n)) = x := by
  unfold unS
  apply BitVec.eq_of_getLsbD_eq
  intro i hi
  simp only [BitVec.getLsbD_xor, BitVec.getLsbD_ushiftRight]
  have h3 : x.getLsbD (n + (n + (n + i))) = false := BitVec.getLsbD_of_ge _ _ (by omega)
  rw [h3]
  generalize x.getLsbD i = a
  generalize x.getLsbD (n + i) = b
  generalize x.getLsbD (n + (n + i)) = c
  cases a <;> cases b <;> cases c <;> rfl

def i1 : W := 10871156337175269513#64
def i2 : W := 3573116690164977347#64
def ig : W := 17428512612931826493#64
theorem i1_ok : c1 * i1 = 1#64 := by decide
theorem i2_ok : c2 * i2 = 1#64 := by decide
theorem ig_ok : gold * ig = 1#64 := by decide
def un2 (y : W) (n : Nat) : W := unS y n (unS y n y)
def undoS (y : W) : W := un2 (un2 (un2 y 31 * i2) 27 * i1) 30
theorem un2_ok (x : W) (n : Nat) (hn : 22 ≤ n) : un2 (x ^^^ x >>> n) n = x := unS_ok x n hn
theorem undo_fin (x : W) : undoS (finS x) = x := by
  unfold undoS finS
  simp only
  rw [un2_ok _ 31 (by omega), BitVec.mul_assoc, i2_ok, BitVec.mul_one, un2_ok _ 27 (by omega), BitVec.mul_assoc, i1_ok, BitVec.mul_one, un2_ok _ 30 (by omega)]
theorem mix_inj {k a b : W} (h : mixS k a = mixS k b) : a = b := by
  have h1 := congrArg undoS h
  unfold mixS at h1
  rw [undo_fin, undo_fin] at h1
  have h2 : gold * (a + 1#64) = gold * (b + 1#64) := by
    have := congrArg (· - k) h1
    simpa [BitVec.add_comm k, BitVec.add_sub_cancel] using this
  have e : ∀ z : W, gold * z * ig = z := fun z => by rw [BitVec.mul_comm gold, BitVec.mul_assoc, ig_ok, BitVec.mul_one]
  have h3 := congrArg (· * ig) h2
  simp only [e] at h3
  have := congrArg (· - 1#64) h3
  simpa [BitVec.add_sub_cancel] using this
end Go.Proofs.Ar.Rg

namespace Go.Proofs.Ar.Rg
open Go.Vx
/-- a stream: key and count -/
abbrev rngV (k c : W) : V := .agg [w64 k, w64 c]
theorem zero_nat : (0 : Int) = ((0#64 : W).toNat : Int) := by decide
theorem t50 (k c : W) : CallP Try.prog 50 [rngV k c] (.tup [w64 (mixS k c), rngV k (c + 1#64)]) := by
  refine go50 ac50 rfl ?_
  simp only [vx, vz, Nat.reduceAdd, Nat.reduceSub, Nat.reduceMul, Nat.reduceLeDiff, Nat.reduceLT, Nat.reduceEqDiff, Nat.reduceBEq, Int.reduceToNat, Int.reduceNeg, Int.reduceEq, Int.reduceNe, Int.reduceLE, Int.reduceLT, reduceCtorEq, ↓reduceIte, ac50]
  refine call_p rfl (t52 k c) ?_
  simp only [vx, vz, Nat.reduceAdd, Nat.reduceSub, Nat.reduceMul, Nat.reduceLeDiff, Nat.reduceLT, Nat.reduceEqDiff, Nat.reduceBEq, Int.reduceToNat, Int.reduceNeg, Int.reduceEq, Int.reduceNe, Int.reduceLE, Int.reduceLT, reduceCtorEq, ↓reduceIte, one_nat, add64]
  refine c_draw ?_
  simp only [vx, vz, Nat.reduceAdd, Nat.reduceSub, Nat.reduceMul, Nat.reduceLeDiff, Nat.reduceLT, Nat.reduceEqDiff, Nat.reduceBEq, Int.reduceToNat, Int.reduceNeg, Int.reduceEq, Int.reduceNe, Int.reduceLE, Int.reduceLT, reduceCtorEq, ↓reduceIte]
  repeat (refine d_k rfl rfl ?_; simp only [vx, vz, Nat.reduceAdd, Nat.reduceSub, Nat.reduceMul, Nat.reduceLeDiff, Nat.reduceLT, Nat.reduceEqDiff, Nat.reduceBEq, Int.reduceToNat, Int.reduceNeg, Int.reduceEq, Int.reduceNe, Int.reduceLE, Int.reduceLT, reduceCtorEq, ↓reduceIte])
theorem t51 (k c : W) : CallP Try.prog 51 [rngV k c] (.tup [w64 (mixS k c), rngV k (c + 1#64)]) := by
  refine go51 ac51 rfl ?_
  simp only [vx, vz, Nat.reduceAdd, Nat.reduceSub, Nat.reduceMul, Nat.reduceLeDiff, Nat.reduceLT, Nat.reduceEqDiff, Nat.reduceBEq, Int.reduceToNat, Int.reduceNeg, Int.reduceEq, Int.reduceNe, Int.reduceLE, Int.reduceLT, reduceCtorEq, ↓reduceIte, ac51]
  refine c_draw ?_
  simp only [vx, vz, Nat.reduceAdd, Nat.reduceSub, Nat.reduceMul, Nat.reduceLeDiff, Nat.reduceLT, Nat.reduceEqDiff, Nat.reduceBEq, Int.reduceToNat, Int.reduceNeg, Int.reduceEq, Int.reduceNe, Int.reduceLE, Int.reduceLT, reduceCtorEq, ↓reduceIte]
  repeat (refine d_k rfl rfl ?_; simp only [vx, vz, Nat.reduceAdd, Nat.reduceSub, Nat.reduceMul, Nat.reduceLeDiff, Nat.reduceLT, Nat.reduceEqDiff, Nat.reduceBEq, Int.reduceToNat, Int.reduceNeg, Int.reduceEq, Int.reduceNe, Int.reduceLE, Int.reduceLT, reduceCtorEq, ↓reduceIte])
  refine call_p rfl (t53 k c) ?_
  repeat (refine d_k rfl rfl ?_; simp only [vx, vz, Nat.reduceAdd, Nat.reduceSub, Nat.reduceMul, Nat.reduceLeDiff, Nat.reduceLT, Nat.reduceEqDiff, Nat.reduceBEq, Int.reduceToNat, Int.reduceNeg, Int.reduceEq, Int.reduceNe, Int.reduceLE, Int.reduceLT, reduceCtorEq, ↓reduceIte])
  rw [one_nat, add64]
def skS (c : W) (n : Int) : W := if n ≤ 0 then c else c + BitVec.ofInt 64 n
end Go.Proofs.Ar.Rg

namespace Go.Proofs.Ar.Rg
open Go.Vx
def acc (rest y : W) : Bool := decide (rest = 0#64) || decide (y < -rest)
def chG (k rest : W) : Nat → W → W → W × W
  | 0, c, x => (x, c)
  | n + 1, c, x => if acc rest (mixS k c) then (mixS k c, c + 1#64) else chG k rest n (c + 1#64) (mixS k c)
def bnd (n : Int) : W := BitVec.ofInt 64 n
def rst (n : Int) : W := -(bnd n) % bnd n
def bel (k c : W) (n : Int) : W × W := chG k (rst n) 64 c 0#64
def belX (k c : W) (n : Int) : Int := (((bel k c n).1 % bnd n).toNat : Int)
def belC (k c : W) (n : Int) : W := (bel k c n).2
theorem neg64 (x : W) : IntKind.u64.wrap (0 - (x.toNat : Int)) = ((-x).toNat : Int) := by
  rw [Int.zero_sub, w64_of, BitVec.ofInt_neg, ofInt_nat]
theorem bnd_nat {n : Int} (h0 : 0 ≤ n) (hx : n ≤ 4611686018427387904) : ((bnd n).toNat : Int) = n := by
  rw [bnd, BitVec.toNat_ofInt]; omega
theorem lt_nat {x y : W} : ((x.toNat : Int) < (y.toNat : Int)) = (x < y) := by
  rw [BitVec.lt_def]; simp
theorem setAt_eq : ∀ (rows : Go.Vx.Rows) (h : Nat) (r : RowS), setAt rows h r = rows.set h r
  | [], _, _ => rfl
  | _ :: _, 0, _ => rfl
  | x :: l, n + 1, r => by rw [setAt, setAt_eq l n r, List.set_cons_succ]
theorem mod_i64 {n : Int} (hn : 1 ≤ n) (hx : n ≤ 4611686018427387904) (x : W) : IntKind.i64.wrap ((x % bnd n).toNat : Int) = ((x % bnd n).toNat : Int) := by
  have hbn := bnd_nat (n := n) (by omega) hx
  have : (x % bnd n).toNat < (bnd n).toNat := by rw [BitVec.toNat_umod]; exact Nat.mod_lt _ (by omega)
  exact wr_i64 (by omega) (by omega)
theorem cl49 {k c : W} {n : Int} {rows0 : Go.Vx.Rows} {h0 h1 : Nat} {K : V → Go.Vx.Rows → Prop} (hn : 1 ≤ n) (hx : n ≤ 4611686018427387904) (hne : h0 ≠ h1) (hl : h0 < rows0.length) (hrow : Go.Vx.rowAt rows0 h1 = .live 1 [[.optr 2 h0 1 0 0]])
    (hK : K (.d (.int .i64 (belX k c n))) (rows0.set h0 (.live 2 [[w64 k, w64 (belC k c n)]]))) :
    InlP Try.prog 49 [.d (.int .i64 n), .optr 1 h1 1 0 0] (rows0.set h0 (.live 2 [[w64 k, w64 c]])) K := by
  have hm := hm
  have hb : IntKind.u64.wrap n = ((bnd n).toNat : Int) := w64_of n
  have hbn := bnd_nat (n := n) (by omega) hx
  have hr0 : ∀ c' : W, Go.Vx.rowAt (rows0.set h0 (.live 2 [[w64 k, w64 c']])) h0 = .live 2 [[w64 k, w64 c']] := fun c' => rowAt_live.1 (List.getElem?_set_self hl)
  have hr1 : ∀ c' : W, Go.Vx.rowAt (rows0.set h0 (.live 2 [[w64 k, w64 c']])) h1 = .live 1 [[.optr 2 h0 1 0 0]] := fun c' => rowAt_live.1 (by rw [List.getElem?_set_ne hne]; exact rowAt_live.2 hrow)
  have hsa : ∀ a b, setAt (rows0.set h0 a) h0 b = rows0.set h0 b := fun a b => by rw [setAt_eq, List.set_set]
  have hz : decide (((rst n).toNat : Int) = 0) = decide (rst n = 0#64) := by rw [zero_nat, eq64]
  have hfin : ∀ x c', bel k c n = (x, c') → ¬ ((bnd n).toNat : Int) = 0 ∧ K (V.d (D.int IntKind.i64 (IntKind.i64.wrap (((x : W).toNat : Int).tmod ((bnd n).toNat : Int))))) (rows0.set h0 (.live 2 [[w64 k, w64 c']])) := by
    intro x c' h
    refine ⟨by omega, ?_⟩
    rw [tmod_nat, mod_i64 hn hx]
    rw [belX, belC, h] at hK
    exact hK
  refine gi49 ac49 rfl ?_
  simp only [vx, vz, Nat.reduceAdd, Nat.reduceSub, Nat.reduceMul, Nat.reduceLeDiff, Nat.reduceLT, Nat.reduceEqDiff, Nat.reduceBEq, Int.reduceToNat, Int.reduceNeg, Int.reduceEq, Int.reduceNe, Int.reduceLE, Int.reduceLT, reduceCtorEq, ↓reduceIte, ac49, hb, neg64, tmod_nat]
  refine ⟨by omega, ?_⟩
  refine loop_st (fun p : Nat × W × W => ⟨mkF 37 [(0, .d (.int .i64 n)), (1, .optr 1 h1 1 0 0), (4, w64 (bnd n)), (5, w64 (rst n)), (6, w64 p.2.2), (13, .d (.int .i64 p.1))], rows0.set h0 (.live 2 [[w64 k, w64 p.2.1]])⟩) (fun p => p.1 ≤ 64 ∧ bel k c n = chG k (rst n) (64 - p.1) p.2.1 p.2.2) (fun p => 64 - p.1) (0, c, 0#64) (weak_any (by simp only [vx, vz, Nat.reduceAdd, Nat.reduceSub, Nat.reduceMul, Nat.reduceLeDiff, Nat.reduceLT, Nat.reduceEqDiff, Nat.reduceBEq, Int.reduceToNat, Int.reduceNeg, Int.reduceEq, Int.reduceNe, Int.reduceLE, Int.reduceLT, reduceCtorEq, ↓reduceIte, rst]; decide)) ⟨by simp, rfl⟩ (fun p hp => ?_)
  obtain ⟨j, c', x⟩ := p
  obtain ⟨h1, h2⟩ := hp
  simp only at h1 h2
  simp only [vx, vz, Nat.reduceAdd, Nat.reduceSub, Nat.reduceMul, Nat.reduceLeDiff, Nat.reduceLT, Nat.reduceEqDiff, Nat.reduceBEq, Int.reduceToNat, Int.reduceNeg, Int.reduceEq, Int.reduceNe, Int.reduceLE, Int.reduceLT, reduceCtorEq, ↓reduceIte]
  refine cond_split (fun hc => ?_) (fun hc => ?_)
  · simp only [decide_eq_true_eq] at hc
    simp only [vx, vz, Nat.reduceAdd, Nat.reduceSub, Nat.reduceMul, Nat.reduceLeDiff, Nat.reduceLT, Nat.reduceEqDiff, Nat.reduceBEq, Int.reduceToNat, Int.reduceNeg, Int.reduceEq, Int.reduceNe, Int.reduceLE, Int.reduceLT, reduceCtorEq, ↓reduceIte]
    refine c_draw ?_
    simp only [vx, vz, Nat.reduceAdd, Nat.reduceSub, Nat.reduceMul, Nat.reduceLeDiff, Nat.reduceLT, Nat.reduceEqDiff, Nat.reduceBEq, Int.reduceToNat, Int.reduceNeg, Int.reduceEq, Int.reduceNe, Int.reduceLE, Int.reduceLT, reduceCtorEq, ↓reduceIte, hr0, hr1]
    repeat (refine d_k rfl rfl ?_; simp only [vx, vz, Nat.reduceAdd, Nat.reduceSub, Nat.reduceMul, Nat.reduceLeDiff, Nat.reduceLT, Nat.reduceEqDiff, Nat.reduceBEq, Int.reduceToNat, Int.reduceNeg, Int.reduceEq, Int.reduceNe, Int.reduceLE, Int.reduceLT, reduceCtorEq, ↓reduceIte, hr0, hr1])
    refine call_p rfl (t50 k c') ?_
    repeat (refine d_k rfl rfl ?_; simp only [vx, vz, Nat.reduceAdd, Nat.reduceSub, Nat.reduceMul, Nat.reduceLeDiff, Nat.reduceLT, Nat.reduceEqDiff, Nat.reduceBEq, Int.reduceToNat, Int.reduceNeg, Int.reduceEq, Int.reduceNe, Int.reduceLE, Int.reduceLT, reduceCtorEq, ↓reduceIte, hr0, hr1])
    refine d_k (by simp [compat, AStm.foot]) (by simp [AStm.foot, AAct.opds, AOp.opds, hOf1, AOp.makes, AOp.bare, Opd.ev, nth]) ?_
    simp only [vx, vz, Nat.reduceAdd, Nat.reduceSub, Nat.reduceMul, Nat.reduceLeDiff, Nat.reduceLT, Nat.reduceEqDiff, Nat.reduceBEq, Int.reduceToNat, Int.reduceNeg, Int.reduceEq, Int.reduceNe, Int.reduceLE, Int.reduceLT, reduceCtorEq, ↓reduceIte, hsa, hz]
    by_cases hq : rst n = 0#64
    · simp only [vx, vz, Nat.reduceAdd, Nat.reduceSub, Nat.reduceMul, Nat.reduceLeDiff, Nat.reduceLT, Nat.reduceEqDiff, Nat.reduceBEq, Int.reduceToNat, Int.reduceNeg, Int.reduceEq, Int.reduceNe, Int.reduceLE, Int.reduceLT, reduceCtorEq, ↓reduceIte, dt hq]
      rw [show 64 - j = (63 - j) + 1 by omega] at h2
      simp only [chG, acc, dt hq, Bool.true_or, if_true] at h2
      exact hfin _ _ h2
    · simp only [vx, vz, Nat.reduceAdd, Nat.reduceSub, Nat.reduceMul, Nat.reduceLeDiff, Nat.reduceLT, Nat.reduceEqDiff, Nat.reduceBEq, Int.reduceToNat, Int.reduceNeg, Int.reduceEq, Int.reduceNe, Int.reduceLE, Int.reduceLT, reduceCtorEq, ↓reduceIte, df hq, neg64, lt_nat]
      by_cases hq2 : mixS k c' < -rst n
      · simp only [vx, vz, Nat.reduceAdd, Nat.reduceSub, Nat.reduceMul, Nat.reduceLeDiff, Nat.reduceLT, Nat.reduceEqDiff, Nat.reduceBEq, Int.reduceToNat, Int.reduceNeg, Int.reduceEq, Int.reduceNe, Int.reduceLE, Int.reduceLT, reduceCtorEq, ↓reduceIte, dt hq2]
        rw [show 64 - j = (63 - j) + 1 by omega] at h2
        simp only [chG, acc, dt hq2, Bool.or_true, if_true] at h2
        exact hfin _ _ h2
      · simp only [vx, vz, Nat.reduceAdd, Nat.reduceSub, Nat.reduceMul, Nat.reduceLeDiff, Nat.reduceLT, Nat.reduceEqDiff, Nat.reduceBEq, Int.reduceToNat, Int.reduceNeg, Int.reduceEq, Int.reduceNe, Int.reduceLE, Int.reduceLT, reduceCtorEq, ↓reduceIte, df hq2]
        rw [show 64 - j = (63 - j) + 1 by omega] at h2
        simp only [chG, acc, df hq2, df hq, Bool.or_false, Bool.false_eq_true, if_false] at h2
        refine ls_n (j + 1, c' + 1#64, mixS k c') (by simp only; omega) (weak_any ?_) ⟨by simp only; omega, by rw [h2, show 64 - (j + 1) = 63 - j by omega]⟩
        simp only [vx, vz, Nat.reduceAdd, Nat.reduceSub, Nat.reduceMul, Nat.reduceLeDiff, Nat.reduceLT, Nat.reduceEqDiff, Nat.reduceBEq, Int.reduceToNat, Int.reduceNeg, Int.reduceEq, Int.reduceNe, Int.reduceLE, Int.reduceLT, reduceCtorEq, ↓reduceIte]
        rw [wr_i64 (by omega) (by omega)]
        trivial
  · simp only [decide_eq_false_iff_not] at hc
    simp only [vx, vz, Nat.reduceAdd, Nat.reduceSub, Nat.reduceMul, Nat.reduceLeDiff, Nat.reduceLT, Nat.reduceEqDiff, Nat.reduceBEq, Int.reduceToNat, Int.reduceNeg, Int.reduceEq, Int.reduceNe, Int.reduceLE, Int.reduceLT, reduceCtorEq, ↓reduceIte]
    have : j = 64 := by omega
    subst this
    exact hfin _ _ h2
end Go.Proofs.Ar.Rg

namespace Go.Proofs.Ar.Rg
open Go.Vx
def okS (n : Int) : Bool := decide (1 ≤ n) && decide (n ≤ 4611686018427387904)
abbrev rngZ : V := .agg [.d (.int .u64 0), .d (.int .u64 0)]
def belV (k c : W) (n : Int) : V := if okS n then .tup [.d (.int .i64 (belX k c n)), rngV k (belC k c n), .d (.int .i64 0)] else .tup [.d (.int .i64 0), rngZ, .d (.int .i64 1)]
theorem belV_ok {k c : W} {n : Int} (h1 : 1 ≤ n) (h2 : n ≤ 4611686018427387904) : belV k c n = .tup [.d (.int .i64 (belX k c n)), rngV k (belC k c n), .d (.int .i64 0)] := by
  rw [belV, okS, dt h1, dt h2]; rfl
theorem belV_err {k c : W} {n : Int} (h : ¬ (1 ≤ n ∧ n ≤ 4611686018427387904)) : belV k c n = .tup [.d (.int .i64 0), rngZ, .d (.int .i64 1)] := by
  rw [belV, okS, ← Bool.decide_and, df h]; rfl
/-- the chooser -/
theorem cl47 {rows : Go.Vx.Rows} {h0 : Nat} {K : V → Go.Vx.Rows → Prop} (hK : K (.fn (.func 49) [] [.optr 1 rows.length 1 0 0]) (rows ++ [.live 1 [[.optr 2 h0 1 0 0]]])) : InlP Try.prog 47 [.optr 2 h0 1 0 0] rows K := by
  refine gi47 ac47 rfl ?_
  simp only [vx, vz, Nat.reduceAdd, Nat.reduceSub, Nat.reduceMul, Nat.reduceLeDiff, Nat.reduceLT, Nat.reduceEqDiff, Nat.reduceBEq, Int.reduceToNat, Int.reduceNeg, Int.reduceEq, Int.reduceNe, Int.reduceLE, Int.reduceLT, reduceCtorEq, ↓reduceIte, ac47]
  refine ⟨rowAt_un.1 (List.getElem?_concat_length ..), ?_⟩
  rw [setAt_eq, List.set_append_right _ _ (Nat.le_refl _), Nat.sub_self]
  exact hK
end Go.Proofs.Ar.Rg

namespace Go.Proofs.Ar.Rg
open Go.Vx
theorem kpL_refl {m : Nat} {rows : Go.Vx.Rows} {fr : List V} (h : fr.all (hB m) = true) : kpL m rows fr fr := by
  induction fr with
  | nil => trivial
  | cons x l ih =>
    simp only [List.all_cons, Bool.and_eq_true] at h
    exact ⟨.same _ h.1, ih h.2⟩
theorem rst_ref {n : Int} (h1 : 1 ≤ n) (h2 : n ≤ 4611686018427387904) : ((18446744073709551615#64 : W) % bnd n + 1#64) % bnd n = rst n := by
  have hb := bnd_nat (n := n) (by omega) h2
  apply BitVec.eq_of_toNat_eq
  rw [rst, BitVec.toNat_umod, BitVec.toNat_umod, BitVec.toNat_add, BitVec.toNat_umod, BitVec.toNat_neg]
  generalize hB : (bnd n).toNat = b at hb ⊢
  have hb1 : 1 ≤ b := by omega
  have hb2 : b ≤ 4611686018427387904 := by omega
  simp only [BitVec.toNat_ofNat, Nat.reducePow, Nat.reduceMod]
  have hlt : 18446744073709551615 % b < b := Nat.mod_lt _ (by omega)
  rw [Nat.mod_eq_of_lt (a := 18446744073709551615 % b + 1) (by omega), Nat.mod_eq_of_lt (a := 18446744073709551616 - b) (by omega)]
  rw [Nat.mod_add_mod, show 18446744073709551615 + 1 = (18446744073709551616 - b) + b by omega, Nat.add_mod_right]
theorem all_nat : (18446744073709551615 : Int) = ((18446744073709551615#64 : W).toNat : Int) := by decide
theorem t48 (k c : W) (n : Int) : CallP Try.prog 48 [rngV k c, .d (.int .i64 n)] (belV k c n) := by
  have hm := hm
  refine go48 ac48 rfl ?_
  by_cases h1 : n < 1
  · rw [belV_err (by omega)]
    simp only [vx, vz, Nat.reduceAdd, Nat.reduceSub, Nat.reduceMul, Nat.reduceLeDiff, Nat.reduceLT, Nat.reduceEqDiff, Nat.reduceBEq, Int.reduceToNat, Int.reduceNeg, Int.reduceEq, Int.reduceNe, Int.reduceLE, Int.reduceLT, reduceCtorEq, ↓reduceIte, ac48, dt h1]
  · by_cases h2 : 4611686018427387904 < n
    · rw [belV_err (by omega)]
      simp only [vx, vz, Nat.reduceAdd, Nat.reduceSub, Nat.reduceMul, Nat.reduceLeDiff, Nat.reduceLT, Nat.reduceEqDiff, Nat.reduceBEq, Int.reduceToNat, Int.reduceNeg, Int.reduceEq, Int.reduceNe, Int.reduceLE, Int.reduceLT, reduceCtorEq, ↓reduceIte, ac48, df h1, dt h2]
    · rw [belV_ok (by omega) (by omega)]
      have hb : IntKind.u64.wrap n = ((bnd n).toNat : Int) := w64_of n
      have hbn := bnd_nat (n := n) (by omega) (by omega)
      have hz : decide (((rst n).toNat : Int) = 0) = decide (rst n = 0#64) := by rw [zero_nat, eq64]
      have hnz : (¬ ((bnd n).toNat : Int) = 0) = True := eq_true (by omega)
      have hro : (IntKind.u64.wrap ((18446744073709551615 : Int).tmod ((bnd n).toNat : Int) + 1)).tmod ((bnd n).toNat : Int) = ((rst n).toNat : Int) := by
        rw [all_nat, tmod_nat, one_nat, add64, tmod_nat, rst_ref (by omega) (by omega)]
      simp only [vx, vz, Nat.reduceAdd, Nat.reduceSub, Nat.reduceMul, Nat.reduceLeDiff, Nat.reduceLT, Nat.reduceEqDiff, Nat.reduceBEq, Int.reduceToNat, Int.reduceNeg, Int.reduceEq, Int.reduceNe, Int.reduceLE, Int.reduceLT, reduceCtorEq, ↓reduceIte, ac48, df h1, df h2, hb, hnz, hro]
      refine loop_st (fun p : Nat × W × W => ⟨mkF 55 [(1, .d (.int .i64 n)), (2, .optr 2 0 1 0 0), (5, .optr 2 1 1 0 0), (7, w64 (bnd n)), (8, w64 (rst n)), (9, .d (.int .i64 p.1))], [.live 2 [[w64 k, w64 p.2.1]], .live 2 [[.d (.int .u64 0), .d (.int .u64 0)]]]⟩) (fun p => p.1 < 64 ∧ bel k c n = chG k (rst n) (64 - p.1) p.2.1 p.2.2) (fun p => 64 - p.1) (0, c, 0#64) (weak_any (by simp only [vx, vz, Nat.reduceAdd, Nat.reduceSub, Nat.reduceMul, Nat.reduceLeDiff, Nat.reduceLT, Nat.reduceEqDiff, Nat.reduceBEq, Int.reduceToNat, Int.reduceNeg, Int.reduceEq, Int.reduceNe, Int.reduceLE, Int.reduceLT, reduceCtorEq, ↓reduceIte]; try trivial)) ⟨by simp, rfl⟩ (fun p hp => ?_)
      obtain ⟨j, c', x⟩ := p
      obtain ⟨h1, h2⟩ := hp
      simp only at h1 h2
      simp only [vx, vz, Nat.reduceAdd, Nat.reduceSub, Nat.reduceMul, Nat.reduceLeDiff, Nat.reduceLT, Nat.reduceEqDiff, Nat.reduceBEq, Int.reduceToNat, Int.reduceNeg, Int.reduceEq, Int.reduceNe, Int.reduceLE, Int.reduceLT, reduceCtorEq, ↓reduceIte]
      refine cond_split (fun hc => ?_) (fun hc => ?_)
      · simp only [decide_eq_true_eq] at hc
        simp only [vx, vz, Nat.reduceAdd, Nat.reduceSub, Nat.reduceMul, Nat.reduceLeDiff, Nat.reduceLT, Nat.reduceEqDiff, Nat.reduceBEq, Int.reduceToNat, Int.reduceNeg, Int.reduceEq, Int.reduceNe, Int.reduceLE, Int.reduceLT, reduceCtorEq, ↓reduceIte]
        refine call_p rfl (t51 k c') ?_
        simp only [vx, vz, Nat.reduceAdd, Nat.reduceSub, Nat.reduceMul, Nat.reduceLeDiff, Nat.reduceLT, Nat.reduceEqDiff, Nat.reduceBEq, Int.reduceToNat, Int.reduceNeg, Int.reduceEq, Int.reduceNe, Int.reduceLE, Int.reduceLT, reduceCtorEq, ↓reduceIte]
        have hw : ∀ x c', bel k c n = (x, c') → belX k c n = ((x % bnd n).toNat : Int) ∧ belC k c n = c' := by
          intro x c' h
          rw [belX, belC, h]; exact ⟨rfl, rfl⟩
        rw [show 64 - j = (63 - j) + 1 by omega] at h2
        simp only [vx, vz, Nat.reduceAdd, Nat.reduceSub, Nat.reduceMul, Nat.reduceLeDiff, Nat.reduceLT, Nat.reduceEqDiff, Nat.reduceBEq, Int.reduceToNat, Int.reduceNeg, Int.reduceEq, Int.reduceNe, Int.reduceLE, Int.reduceLT, reduceCtorEq, ↓reduceIte, hz]
        by_cases hq : rst n = 0#64
        · simp only [chG, acc, dt hq, Bool.true_or, if_true] at h2
          obtain ⟨hw1, hw2⟩ := hw _ _ h2
          rw [hw1, hw2]
          simp only [vx, vz, Nat.reduceAdd, Nat.reduceSub, Nat.reduceMul, Nat.reduceLeDiff, Nat.reduceLT, Nat.reduceEqDiff, Nat.reduceBEq, Int.reduceToNat, Int.reduceNeg, Int.reduceEq, Int.reduceNe, Int.reduceLE, Int.reduceLT, reduceCtorEq, ↓reduceIte, dt hq]
          refine c_draw ?_
          simp only [vx, vz, Nat.reduceAdd, Nat.reduceSub, Nat.reduceMul, Nat.reduceLeDiff, Nat.reduceLT, Nat.reduceEqDiff, Nat.reduceBEq, Int.reduceToNat, Int.reduceNeg, Int.reduceEq, Int.reduceNe, Int.reduceLE, Int.reduceLT, reduceCtorEq, ↓reduceIte, hnz, tmod_nat, mod_i64 (show 1 ≤ n by omega) (show n ≤ 4611686018427387904 by omega)]
          repeat (refine d_k rfl rfl ?_; simp only [vx, vz, Nat.reduceAdd, Nat.reduceSub, Nat.reduceMul, Nat.reduceLeDiff, Nat.reduceLT, Nat.reduceEqDiff, Nat.reduceBEq, Int.reduceToNat, Int.reduceNeg, Int.reduceEq, Int.reduceNe, Int.reduceLE, Int.reduceLT, reduceCtorEq, ↓reduceIte, hnz, tmod_nat, mod_i64 (show 1 ≤ n by omega) (show n ≤ 4611686018427387904 by omega)])
        · simp only [vx, vz, Nat.reduceAdd, Nat.reduceSub, Nat.reduceMul, Nat.reduceLeDiff, Nat.reduceLT, Nat.reduceEqDiff, Nat.reduceBEq, Int.reduceToNat, Int.reduceNeg, Int.reduceEq, Int.reduceNe, Int.reduceLE, Int.reduceLT, reduceCtorEq, ↓reduceIte, df hq, neg64, lt_nat]
          by_cases hq2 : mixS k c' < -rst n
          · simp only [chG, acc, dt hq2, Bool.or_true, if_true] at h2
            obtain ⟨hw1, hw2⟩ := hw _ _ h2
            rw [hw1, hw2]
            simp only [vx, vz, Nat.reduceAdd, Nat.reduceSub, Nat.reduceMul, Nat.reduceLeDiff, Nat.reduceLT, Nat.reduceEqDiff, Nat.reduceBEq, Int.reduceToNat, Int.reduceNeg, Int.reduceEq, Int.reduceNe, Int.reduceLE, Int.reduceLT, reduceCtorEq, ↓reduceIte, dt hq2]
            refine c_draw ?_
            simp only [vx, vz, Nat.reduceAdd, Nat.reduceSub, Nat.reduceMul, Nat.reduceLeDiff, Nat.reduceLT, Nat.reduceEqDiff, Nat.reduceBEq, Int.reduceToNat, Int.reduceNeg, Int.reduceEq, Int.reduceNe, Int.reduceLE, Int.reduceLT, reduceCtorEq, ↓reduceIte, hnz, tmod_nat, mod_i64 (show 1 ≤ n by omega) (show n ≤ 4611686018427387904 by omega)]
            repeat (refine d_k rfl rfl ?_; simp only [vx, vz, Nat.reduceAdd, Nat.reduceSub, Nat.reduceMul, Nat.reduceLeDiff, Nat.reduceLT, Nat.reduceEqDiff, Nat.reduceBEq, Int.reduceToNat, Int.reduceNeg, Int.reduceEq, Int.reduceNe, Int.reduceLE, Int.reduceLT, reduceCtorEq, ↓reduceIte, hnz, tmod_nat, mod_i64 (show 1 ≤ n by omega) (show n ≤ 4611686018427387904 by omega)])
          · simp only [chG, acc, df hq2, df hq, Bool.or_false, Bool.false_eq_true, if_false] at h2
            simp only [vx, vz, Nat.reduceAdd, Nat.reduceSub, Nat.reduceMul, Nat.reduceLeDiff, Nat.reduceLT, Nat.reduceEqDiff, Nat.reduceBEq, Int.reduceToNat, Int.reduceNeg, Int.reduceEq, Int.reduceNe, Int.reduceLE, Int.reduceLT, reduceCtorEq, ↓reduceIte, df hq2]
            refine cond_split (fun hc3 => ?_) (fun hc3 => ?_)
            · simp only [decide_eq_true_eq] at hc3
              rw [show 63 - j = 0 by omega] at h2
              obtain ⟨hw1, hw2⟩ := hw _ _ h2
              rw [hw1, hw2]
              simp only [vx, vz, Nat.reduceAdd, Nat.reduceSub, Nat.reduceMul, Nat.reduceLeDiff, Nat.reduceLT, Nat.reduceEqDiff, Nat.reduceBEq, Int.reduceToNat, Int.reduceNeg, Int.reduceEq, Int.reduceNe, Int.reduceLE, Int.reduceLT, reduceCtorEq, ↓reduceIte]
              refine c_draw ?_
              simp only [vx, vz, Nat.reduceAdd, Nat.reduceSub, Nat.reduceMul, Nat.reduceLeDiff, Nat.reduceLT, Nat.reduceEqDiff, Nat.reduceBEq, Int.reduceToNat, Int.reduceNeg, Int.reduceEq, Int.reduceNe, Int.reduceLE, Int.reduceLT, reduceCtorEq, ↓reduceIte, hnz, tmod_nat, mod_i64 (show 1 ≤ n by omega) (show n ≤ 4611686018427387904 by omega)]
              repeat (refine d_k rfl rfl ?_; simp only [vx, vz, Nat.reduceAdd, Nat.reduceSub, Nat.reduceMul, Nat.reduceLeDiff, Nat.reduceLT, Nat.reduceEqDiff, Nat.reduceBEq, Int.reduceToNat, Int.reduceNeg, Int.reduceEq, Int.reduceNe, Int.reduceLE, Int.reduceLT, reduceCtorEq, ↓reduceIte, hnz, tmod_nat, mod_i64 (show 1 ≤ n by omega) (show n ≤ 4611686018427387904 by omega)])
            · simp only [decide_eq_false_iff_not] at hc3
              simp only [vx, vz, Nat.reduceAdd, Nat.reduceSub, Nat.reduceMul, Nat.reduceLeDiff, Nat.reduceLT, Nat.reduceEqDiff, Nat.reduceBEq, Int.reduceToNat, Int.reduceNeg, Int.reduceEq, Int.reduceNe, Int.reduceLE, Int.reduceLT, reduceCtorEq, ↓reduceIte]
              refine ls_n (j + 1, c' + 1#64, mixS k c') (by simp only; omega) (Weak.trans (weak_any ?_) (weak_frz2 2 (by omega) ⟨.same _ (by simp [rowB, hB]), .same _ (by simp [rowB, hB]), trivial⟩ (kpL_refl rfl))) ⟨by simp only; omega, by rw [h2, show 64 - (j + 1) = 63 - j by omega]⟩
              simp only [vx, vz, Nat.reduceAdd, Nat.reduceSub, Nat.reduceMul, Nat.reduceLeDiff, Nat.reduceLT, Nat.reduceEqDiff, Nat.reduceBEq, Int.reduceToNat, Int.reduceNeg, Int.reduceEq, Int.reduceNe, Int.reduceLE, Int.reduceLT, reduceCtorEq, ↓reduceIte]
              rw [wr_i64 (by omega) (by omega)]
              trivial
      · simp only [decide_eq_false_iff_not] at hc
        omega
end Go.Proofs.Ar.Rg

namespace Go.Proofs.Ar.Rg
open Go.Vx
theorem getM_at {α β : Type} {l : List α} {f : α → β} {i : Nat} {x : α} {g : β → Prop} (h : l[i]? = some x) (hk : g (f x)) : getA (l.map f) (i : Int).toNat g :=
  getA_iff.2 ⟨f x, by simp [h], hk⟩
def iD (x : Int) : List D := [.int .i64 x]
abbrev wsV (l : List Int) : V := .d (.sl 1 (l.map iD))
def totG : List Int → Int → Option Int
  | [], s => some s
  | w :: l, s => if w < 0 ∨ 1099511627776 - s < w then none else totG l (s + w)
def tot (l : List Int) : Int := (totG l 0).getD 0
theorem totG_sum {l : List Int} {s r : Int} (h : totG l s = some r) (hs : s ≤ 1099511627776) : (∀ w ∈ l, 0 ≤ w) ∧ r = s + l.sum ∧ r ≤ 1099511627776 := by
  induction l generalizing s with
  | nil => simp only [totG, Option.some.injEq] at h; exact ⟨by simp, by simp [h], by omega⟩
  | cons w l ih =>
    simp only [totG] at h
    split at h
    · cases h
    · obtain ⟨h1, h2, h3⟩ := ih h (by omega)
      exact ⟨by simp only [List.mem_cons]; rintro x (rfl | hx); · omega
                · exact h1 x hx, by rw [h2, List.sum_cons]; omega, h3⟩
theorem t46 (l : List Int) (hl : l.length ≤ maxLen) : CallP Try.prog 46 [wsV l] (.tup [.d (.int .i64 (tot l)), .d (.bool (decide (0 < tot l)))]) := by
  have hm := hm
  refine go46 ac46 rfl ?_
  simp only [vx, vz, Nat.reduceAdd, Nat.reduceSub, Nat.reduceMul, Nat.reduceLeDiff, Nat.reduceLT, Nat.reduceEqDiff, Nat.reduceBEq, Int.reduceToNat, Int.reduceNeg, Int.reduceEq, Int.reduceNe, Int.reduceLE, Int.reduceLT, reduceCtorEq, ↓reduceIte, ac46, iD]
  refine loop_st (fun p : Nat × Int => ⟨mkF 28 [(7, wsV l), (8, .d (.int .i64 l.length)), (4, .d (.int .i64 p.2)), (9, .d (.int .i64 p.1))], []⟩) (fun p => p.1 ≤ l.length ∧ 0 ≤ p.2 ∧ p.2 ≤ 1099511627776 ∧ totG l 0 = totG (l.drop p.1) p.2) (fun p => l.length - p.1) (0, 0) (weak_any (by simp only [vx, vz, Nat.reduceAdd, Nat.reduceSub, Nat.reduceMul, Nat.reduceLeDiff, Nat.reduceLT, Nat.reduceEqDiff, Nat.reduceBEq, Int.reduceToNat, Int.reduceNeg, Int.reduceEq, Int.reduceNe, Int.reduceLE, Int.reduceLT, reduceCtorEq, ↓reduceIte, iD]; try trivial)) ⟨by simp, by simp, by simp, rfl⟩ (fun p hp => ?_)
  obtain ⟨i, s⟩ := p
  obtain ⟨h1, h2, h3, h4⟩ := hp
  simp only at h1 h2 h3 h4
  simp only [vx, vz, Nat.reduceAdd, Nat.reduceSub, Nat.reduceMul, Nat.reduceLeDiff, Nat.reduceLT, Nat.reduceEqDiff, Nat.reduceBEq, Int.reduceToNat, Int.reduceNeg, Int.reduceEq, Int.reduceNe, Int.reduceLE, Int.reduceLT, reduceCtorEq, ↓reduceIte, iD]
  refine cond_split (fun hc => ?_) (fun hc => ?_)
  · simp only [decide_eq_true_eq] at hc
    obtain ⟨x, hx⟩ := get_ex (l := l) (i := i) (by omega)
    rw [drop_at hx, totG] at h4
    simp only [vx, vz, Nat.reduceAdd, Nat.reduceSub, Nat.reduceMul, Nat.reduceLeDiff, Nat.reduceLT, Nat.reduceEqDiff, Nat.reduceBEq, Int.reduceToNat, Int.reduceNeg, Int.reduceEq, Int.reduceNe, Int.reduceLE, Int.reduceLT, reduceCtorEq, ↓reduceIte, iD]
    refine ⟨by omega, by omega, getM_at hx ?_⟩
    simp only [vx, vz, Nat.reduceAdd, Nat.reduceSub, Nat.reduceMul, Nat.reduceLeDiff, Nat.reduceLT, Nat.reduceEqDiff, Nat.reduceBEq, Int.reduceToNat, Int.reduceNeg, Int.reduceEq, Int.reduceNe, Int.reduceLE, Int.reduceLT, reduceCtorEq, ↓reduceIte]
    simp only [vx, vz, Nat.reduceAdd, Nat.reduceSub, Nat.reduceMul, Nat.reduceLeDiff, Nat.reduceLT, Nat.reduceEqDiff, Nat.reduceBEq, Int.reduceToNat, Int.reduceNeg, Int.reduceEq, Int.reduceNe, Int.reduceLE, Int.reduceLT, reduceCtorEq, ↓reduceIte, iD]
    by_cases hq : x < 0
    · rw [if_pos (.inl hq)] at h4
      simp only [vx, vz, Nat.reduceAdd, Nat.reduceSub, Nat.reduceMul, Nat.reduceLeDiff, Nat.reduceLT, Nat.reduceEqDiff, Nat.reduceBEq, Int.reduceToNat, Int.reduceNeg, Int.reduceEq, Int.reduceNe, Int.reduceLE, Int.reduceLT, reduceCtorEq, ↓reduceIte, dt hq, tot, h4, Option.getD_none]
    · simp only [vx, vz, Nat.reduceAdd, Nat.reduceSub, Nat.reduceMul, Nat.reduceLeDiff, Nat.reduceLT, Nat.reduceEqDiff, Nat.reduceBEq, Int.reduceToNat, Int.reduceNeg, Int.reduceEq, Int.reduceNe, Int.reduceLE, Int.reduceLT, reduceCtorEq, ↓reduceIte, df hq]
      rw [wr_i64 (n := 1099511627776 - s) (by omega) (by omega)]
      refine cond_split (fun hc2 => ?_) (fun hc2 => ?_)
      · simp only [decide_eq_true_eq] at hc2
        rw [if_pos (.inr hc2)] at h4
        simp only [vx, vz, Nat.reduceAdd, Nat.reduceSub, Nat.reduceMul, Nat.reduceLeDiff, Nat.reduceLT, Nat.reduceEqDiff, Nat.reduceBEq, Int.reduceToNat, Int.reduceNeg, Int.reduceEq, Int.reduceNe, Int.reduceLE, Int.reduceLT, reduceCtorEq, ↓reduceIte, tot, h4, Option.getD_none]
      · simp only [decide_eq_false_iff_not] at hc2
        rw [if_neg (by omega)] at h4
        simp only [vx, vz, Nat.reduceAdd, Nat.reduceSub, Nat.reduceMul, Nat.reduceLeDiff, Nat.reduceLT, Nat.reduceEqDiff, Nat.reduceBEq, Int.reduceToNat, Int.reduceNeg, Int.reduceEq, Int.reduceNe, Int.reduceLE, Int.reduceLT, reduceCtorEq, ↓reduceIte]
        refine ls_n (i + 1, s + x) (by simp only; omega) (weak_any ?_) ⟨by simp only; omega, by simp only; omega, by simp only; omega, h4⟩
        simp only [vx, vz, Nat.reduceAdd, Nat.reduceSub, Nat.reduceMul, Nat.reduceLeDiff, Nat.reduceLT, Nat.reduceEqDiff, Nat.reduceBEq, Int.reduceToNat, Int.reduceNeg, Int.reduceEq, Int.reduceNe, Int.reduceLE, Int.reduceLT, reduceCtorEq, ↓reduceIte, iD]
        rw [wr_i64 (by omega) (by omega), wr_i64 (by omega) (by omega)]
        trivial
  · simp only [decide_eq_false_iff_not] at hc
    rw [drop_end (by omega), totG] at h4
    simp only [vx, vz, Nat.reduceAdd, Nat.reduceSub, Nat.reduceMul, Nat.reduceLeDiff, Nat.reduceLT, Nat.reduceEqDiff, Nat.reduceBEq, Int.reduceToNat, Int.reduceNeg, Int.reduceEq, Int.reduceNe, Int.reduceLE, Int.reduceLT, reduceCtorEq, ↓reduceIte, tot, h4, Option.getD_some]
end Go.Proofs.Ar.Rg

namespace Go.Proofs.Ar.Rg
open Go.Vx
theorem belX_lt {k c : W} {n : Int} (h1 : 1 ≤ n) (h2 : n ≤ 4611686018427387904) : 0 ≤ belX k c n ∧ belX k c n < n := by
  have hb := bnd_nat (n := n) (by omega) h2
  have : ((bel k c n).1 % bnd n).toNat < (bnd n).toNat := by rw [BitVec.toNat_umod]; exact Nat.mod_lt _ (by omega)
  rw [belX]; omega
def pck : List Int → Int → Nat
  | [], _ => 0
  | w :: l, x => if x < w then 0 else pck l (x - w) + 1
def wgtV (k c : W) (l : List Int) : V := if 0 < tot l then .tup [.d (.int .i64 (pck l (belX k c (tot l)))), rngV k (belC k c (tot l)), .d (.int .i64 0)] else .tup [.d (.int .i64 0), rngZ, .d (.int .i64 1)]
theorem tot_facts {l : List Int} (h : 0 < tot l) : totG l 0 = some (tot l) ∧ (∀ w ∈ l, 0 ≤ w) ∧ tot l = l.sum ∧ tot l ≤ 1099511627776 := by
  cases h1 : totG l 0 with
  | none => rw [tot, h1] at h; simp at h
  | some r =>
    have : tot l = r := by rw [tot, h1]; rfl
    rw [this]
    obtain ⟨h2, h3, h4⟩ := totG_sum h1 (by omega)
    exact ⟨rfl, h2, by omega, h4⟩
theorem sum_nn {l : List Int} (h : ∀ w ∈ l, 0 ≤ w) : 0 ≤ l.sum := by
  induction l with
  | nil => simp
  | cons x l ih => rw [List.sum_cons]; have := h x (by simp); have := ih (fun w hw => h w (by simp [hw])); omega
theorem t40 (k c : W) (l : List Int) (hl : l.length ≤ maxLen) : CallP Try.prog 40 [rngV k c, wsV l] (wgtV k c l) := by
  have hm := hm
  refine go40 (AC.at (AC.look [true, false, true]) [1, 1, 1, 0] ac40) rfl ?_
  simp only [vx, vz, Nat.reduceAdd, Nat.reduceSub, Nat.reduceMul, Nat.reduceLeDiff, Nat.reduceLT, Nat.reduceEqDiff, Nat.reduceBEq, Int.reduceToNat, Int.reduceNeg, Int.reduceEq, Int.reduceNe, Int.reduceLE, Int.reduceLT, reduceCtorEq, ↓reduceIte, ac40, AC.at, AC.look]
  refine call_p rfl (t46 l hl) ?_
  simp only [vx, vz, Nat.reduceAdd, Nat.reduceSub, Nat.reduceMul, Nat.reduceLeDiff, Nat.reduceLT, Nat.reduceEqDiff, Nat.reduceBEq, Int.reduceToNat, Int.reduceNeg, Int.reduceEq, Int.reduceNe, Int.reduceLE, Int.reduceLT, reduceCtorEq, ↓reduceIte]
  refine cond_split (fun hc => ?_) (fun hc => ?_)
  · have h0 : ¬ 0 < tot l := by simpa using hc
    simp only [vx, vz, Nat.reduceAdd, Nat.reduceSub, Nat.reduceMul, Nat.reduceLeDiff, Nat.reduceLT, Nat.reduceEqDiff, Nat.reduceBEq, Int.reduceToNat, Int.reduceNeg, Int.reduceEq, Int.reduceNe, Int.reduceLE, Int.reduceLT, reduceCtorEq, ↓reduceIte, wgtV, if_neg h0]
  · have h0 : 0 < tot l := by simpa using hc
    obtain ⟨_, hw, hs, hx⟩ := tot_facts h0
    obtain ⟨hb1, hb2⟩ := belX_lt (k := k) (c := c) (n := tot l) (by omega) (by omega)
    simp only [vx, vz, Nat.reduceAdd, Nat.reduceSub, Nat.reduceMul, Nat.reduceLeDiff, Nat.reduceLT, Nat.reduceEqDiff, Nat.reduceBEq, Int.reduceToNat, Int.reduceNeg, Int.reduceEq, Int.reduceNe, Int.reduceLE, Int.reduceLT, reduceCtorEq, ↓reduceIte, wgtV, if_pos h0]
    refine call_i (cl47 ?_)
    simp only [vx, vz, Nat.reduceAdd, Nat.reduceSub, Nat.reduceMul, Nat.reduceLeDiff, Nat.reduceLT, Nat.reduceEqDiff, Nat.reduceBEq, Int.reduceToNat, Int.reduceNeg, Int.reduceEq, Int.reduceNe, Int.reduceLE, Int.reduceLT, reduceCtorEq, ↓reduceIte]
    refine call_i (cl49 (rows0 := [.live 2 [[w64 k, w64 c]], .live 2 [[.d (.int .u64 0), .d (.int .u64 0)]], .live 1 [[.optr 2 0 1 0 0]]]) (h0 := 0) (h1 := 2) (by omega) (by omega) (by decide) (Nat.zero_lt_succ _) rfl ?_)
    simp only [vx, vz, Nat.reduceAdd, Nat.reduceSub, Nat.reduceMul, Nat.reduceLeDiff, Nat.reduceLT, Nat.reduceEqDiff, Nat.reduceBEq, Int.reduceToNat, Int.reduceNeg, Int.reduceEq, Int.reduceNe, Int.reduceLE, Int.reduceLT, reduceCtorEq, ↓reduceIte]
    refine loop_st (fun p : Nat × Int => ⟨mkF 40 [(2, .optr 2 0 1 0 0), (5, .optr 2 1 1 0 0), (9, .d (.int .i64 p.2)), (23, wsV l), (24, .d (.int .i64 l.length)), (25, .d (.int .i64 p.1))], [.live 2 [[w64 k, w64 (belC k c (tot l))]], .live 2 [[.d (.int .u64 0), .d (.int .u64 0)]], .live 1 [[.optr 2 0 1 0 0]]]⟩) (fun p => p.1 ≤ l.length ∧ 0 ≤ p.2 ∧ p.2 < (l.drop p.1).sum ∧ pck l (belX k c (tot l)) = p.1 + pck (l.drop p.1) p.2 ∧ p.2 ≤ 1099511627776) (fun p => l.length - p.1) (0, belX k c (tot l)) (weak_any (by simp only [vx, vz, Nat.reduceAdd, Nat.reduceSub, Nat.reduceMul, Nat.reduceLeDiff, Nat.reduceLT, Nat.reduceEqDiff, Nat.reduceBEq, Int.reduceToNat, Int.reduceNeg, Int.reduceEq, Int.reduceNe, Int.reduceLE, Int.reduceLT, reduceCtorEq, ↓reduceIte]; try trivial)) ⟨by simp, hb1, by rw [List.drop_zero]; simp only; omega, by simp, by simp only; omega⟩ (fun p hp => ?_)
    obtain ⟨i, x⟩ := p
    obtain ⟨h1, h2, h3, h4, h5⟩ := hp
    simp only at h1 h2 h3 h4 h5
    simp only [vx, vz, Nat.reduceAdd, Nat.reduceSub, Nat.reduceMul, Nat.reduceLeDiff, Nat.reduceLT, Nat.reduceEqDiff, Nat.reduceBEq, Int.reduceToNat, Int.reduceNeg, Int.reduceEq, Int.reduceNe, Int.reduceLE, Int.reduceLT, reduceCtorEq, ↓reduceIte]
    refine cond_split (fun hc => ?_) (fun hc => ?_)
    · simp only [decide_eq_true_eq] at hc
      obtain ⟨w, hx⟩ := get_ex (l := l) (i := i) (by omega)
      have hwn := hw w (List.mem_of_getElem? hx)
      rw [drop_at hx, List.sum_cons] at h3
      rw [drop_at hx, pck] at h4
      simp only [vx, vz, Nat.reduceAdd, Nat.reduceSub, Nat.reduceMul, Nat.reduceLeDiff, Nat.reduceLT, Nat.reduceEqDiff, Nat.reduceBEq, Int.reduceToNat, Int.reduceNeg, Int.reduceEq, Int.reduceNe, Int.reduceLE, Int.reduceLT, reduceCtorEq, ↓reduceIte]
      refine ⟨by omega, by omega, getM_at hx ?_⟩
      simp only [vx, vz, Nat.reduceAdd, Nat.reduceSub, Nat.reduceMul, Nat.reduceLeDiff, Nat.reduceLT, Nat.reduceEqDiff, Nat.reduceBEq, Int.reduceToNat, Int.reduceNeg, Int.reduceEq, Int.reduceNe, Int.reduceLE, Int.reduceLT, reduceCtorEq, ↓reduceIte]
      simp only [vx, vz, Nat.reduceAdd, Nat.reduceSub, Nat.reduceMul, Nat.reduceLeDiff, Nat.reduceLT, Nat.reduceEqDiff, Nat.reduceBEq, Int.reduceToNat, Int.reduceNeg, Int.reduceEq, Int.reduceNe, Int.reduceLE, Int.reduceLT, reduceCtorEq, ↓reduceIte, iD]
      refine cond_split (fun hc2 => ?_) (fun hc2 => ?_)
      · simp only [decide_eq_true_eq] at hc2
        rw [if_pos hc2] at h4
        simp only [vx, vz, Nat.reduceAdd, Nat.reduceSub, Nat.reduceMul, Nat.reduceLeDiff, Nat.reduceLT, Nat.reduceEqDiff, Nat.reduceBEq, Int.reduceToNat, Int.reduceNeg, Int.reduceEq, Int.reduceNe, Int.reduceLE, Int.reduceLT, reduceCtorEq, ↓reduceIte, h4]
        refine c_draw ?_
        simp only [vx, vz, Nat.reduceAdd, Nat.reduceSub, Nat.reduceMul, Nat.reduceLeDiff, Nat.reduceLT, Nat.reduceEqDiff, Nat.reduceBEq, Int.reduceToNat, Int.reduceNeg, Int.reduceEq, Int.reduceNe, Int.reduceLE, Int.reduceLT, reduceCtorEq, ↓reduceIte]
        repeat (refine d_k rfl rfl ?_; simp only [vx, vz, Nat.reduceAdd, Nat.reduceSub, Nat.reduceMul, Nat.reduceLeDiff, Nat.reduceLT, Nat.reduceEqDiff, Nat.reduceBEq, Int.reduceToNat, Int.reduceNeg, Int.reduceEq, Int.reduceNe, Int.reduceLE, Int.reduceLT, reduceCtorEq, ↓reduceIte])
      · simp only [decide_eq_false_iff_not] at hc2
        rw [if_neg hc2] at h4
        simp only [vx, vz, Nat.reduceAdd, Nat.reduceSub, Nat.reduceMul, Nat.reduceLeDiff, Nat.reduceLT, Nat.reduceEqDiff, Nat.reduceBEq, Int.reduceToNat, Int.reduceNeg, Int.reduceEq, Int.reduceNe, Int.reduceLE, Int.reduceLT, reduceCtorEq, ↓reduceIte]
        refine ls_n (i + 1, x - w) (by simp only; omega) (weak_any ?_) ⟨by simp only; omega, by simp only; omega, by simp only; omega, by simp only; omega, by simp only; omega⟩
        simp only [vx, vz, Nat.reduceAdd, Nat.reduceSub, Nat.reduceMul, Nat.reduceLeDiff, Nat.reduceLT, Nat.reduceEqDiff, Nat.reduceBEq, Int.reduceToNat, Int.reduceNeg, Int.reduceEq, Int.reduceNe, Int.reduceLE, Int.reduceLT, reduceCtorEq, ↓reduceIte]
        rw [wr_i64 (by omega) (by omega), wr_i64 (by omega) (by omega)]
        trivial
    · simp only [decide_eq_false_iff_not] at hc
      rw [drop_end (by omega), List.sum_nil] at h3
      omega
end Go.Proofs.Ar.Rg

namespace Go.Proofs.Ar.Rg
open Go.Vx
theorem t41 (k c : W) (l : List Int) (hl : l.length ≤ maxLen) : CallP Try.prog 41 [rngV k c, wsV l] (wgtV k c l) := by
  have hm := hm
  refine go41 ac41 rfl ?_
  simp only [vx, vz, Nat.reduceAdd, Nat.reduceSub, Nat.reduceMul, Nat.reduceLeDiff, Nat.reduceLT, Nat.reduceEqDiff, Nat.reduceBEq, Int.reduceToNat, Int.reduceNeg, Int.reduceEq, Int.reduceNe, Int.reduceLE, Int.reduceLT, reduceCtorEq, ↓reduceIte, ac41]
  refine loop_st (fun p : Nat × Int => ⟨mkF 66 [(1, wsV l), (2, .optr 2 0 1 0 0), (5, .optr 2 1 1 0 0), (7, .d (.int .i64 p.2)), (8, .d (.int .i64 p.1))], [.live 2 [[w64 k, w64 c]], .live 2 [[.d (.int .u64 0), .d (.int .u64 0)]]]⟩) (fun p => p.1 ≤ l.length ∧ 0 ≤ p.2 ∧ p.2 ≤ 1099511627776 ∧ totG l 0 = totG (l.drop p.1) p.2) (fun p => l.length - p.1) (0, 0) (weak_any (by simp only [vx, vz, Nat.reduceAdd, Nat.reduceSub, Nat.reduceMul, Nat.reduceLeDiff, Nat.reduceLT, Nat.reduceEqDiff, Nat.reduceBEq, Int.reduceToNat, Int.reduceNeg, Int.reduceEq, Int.reduceNe, Int.reduceLE, Int.reduceLT, reduceCtorEq, ↓reduceIte]; try trivial)) ⟨by simp, by simp, by simp, rfl⟩ (fun p hp => ?_)
  obtain ⟨i, s⟩ := p
  obtain ⟨h1, h2, h3, h4⟩ := hp
  simp only at h1 h2 h3 h4
  simp only [vx, vz, Nat.reduceAdd, Nat.reduceSub, Nat.reduceMul, Nat.reduceLeDiff, Nat.reduceLT, Nat.reduceEqDiff, Nat.reduceBEq, Int.reduceToNat, Int.reduceNeg, Int.reduceEq, Int.reduceNe, Int.reduceLE, Int.reduceLT, reduceCtorEq, ↓reduceIte]
  refine cond_split (fun hc => ?_) (fun hc => ?_)
  · simp only [decide_eq_true_eq] at hc
    obtain ⟨x, hx⟩ := get_ex (l := l) (i := i) (by omega)
    rw [drop_at hx, totG] at h4
    simp only [vx, vz, Nat.reduceAdd, Nat.reduceSub, Nat.reduceMul, Nat.reduceLeDiff, Nat.reduceLT, Nat.reduceEqDiff, Nat.reduceBEq, Int.reduceToNat, Int.reduceNeg, Int.reduceEq, Int.reduceNe, Int.reduceLE, Int.reduceLT, reduceCtorEq, ↓reduceIte]
    refine ⟨by omega, by omega, getM_at hx ?_⟩
    simp only [vx, vz, Nat.reduceAdd, Nat.reduceSub, Nat.reduceMul, Nat.reduceLeDiff, Nat.reduceLT, Nat.reduceEqDiff, Nat.reduceBEq, Int.reduceToNat, Int.reduceNeg, Int.reduceEq, Int.reduceNe, Int.reduceLE, Int.reduceLT, reduceCtorEq, ↓reduceIte]
    simp only [vx, vz, Nat.reduceAdd, Nat.reduceSub, Nat.reduceMul, Nat.reduceLeDiff, Nat.reduceLT, Nat.reduceEqDiff, Nat.reduceBEq, Int.reduceToNat, Int.reduceNeg, Int.reduceEq, Int.reduceNe, Int.reduceLE, Int.reduceLT, reduceCtorEq, ↓reduceIte, iD]
    by_cases hq : x < 0
    · rw [if_pos (.inl hq)] at h4
      have h0 : ¬ 0 < tot l := by rw [tot, h4]; simp
      simp only [vx, vz, Nat.reduceAdd, Nat.reduceSub, Nat.reduceMul, Nat.reduceLeDiff, Nat.reduceLT, Nat.reduceEqDiff, Nat.reduceBEq, Int.reduceToNat, Int.reduceNeg, Int.reduceEq, Int.reduceNe, Int.reduceLE, Int.reduceLT, reduceCtorEq, ↓reduceIte, dt hq, wgtV, if_neg h0]
    · simp only [vx, vz, Nat.reduceAdd, Nat.reduceSub, Nat.reduceMul, Nat.reduceLeDiff, Nat.reduceLT, Nat.reduceEqDiff, Nat.reduceBEq, Int.reduceToNat, Int.reduceNeg, Int.reduceEq, Int.reduceNe, Int.reduceLE, Int.reduceLT, reduceCtorEq, ↓reduceIte, df hq]
      refine ⟨by omega, by omega, getM_at hx ?_⟩
      simp only [vx, vz, Nat.reduceAdd, Nat.reduceSub, Nat.reduceMul, Nat.reduceLeDiff, Nat.reduceLT, Nat.reduceEqDiff, Nat.reduceBEq, Int.reduceToNat, Int.reduceNeg, Int.reduceEq, Int.reduceNe, Int.reduceLE, Int.reduceLT, reduceCtorEq, ↓reduceIte]
      simp only [vx, vz, Nat.reduceAdd, Nat.reduceSub, Nat.reduceMul, Nat.reduceLeDiff, Nat.reduceLT, Nat.reduceEqDiff, Nat.reduceBEq, Int.reduceToNat, Int.reduceNeg, Int.reduceEq, Int.reduceNe, Int.reduceLE, Int.reduceLT, reduceCtorEq, ↓reduceIte, iD]
      rw [wr_i64 (n := 1099511627776 - s) (by omega) (by omega)]
      refine cond_split (fun hc2 => ?_) (fun hc2 => ?_)
      · simp only [decide_eq_true_eq] at hc2
        rw [if_pos (.inr hc2)] at h4
        have h0 : ¬ 0 < tot l := by rw [tot, h4]; simp
        simp only [vx, vz, Nat.reduceAdd, Nat.reduceSub, Nat.reduceMul, Nat.reduceLeDiff, Nat.reduceLT, Nat.reduceEqDiff, Nat.reduceBEq, Int.reduceToNat, Int.reduceNeg, Int.reduceEq, Int.reduceNe, Int.reduceLE, Int.reduceLT, reduceCtorEq, ↓reduceIte, wgtV, if_neg h0]
      · simp only [decide_eq_false_iff_not] at hc2
        rw [if_neg (by omega)] at h4
        simp only [vx, vz, Nat.reduceAdd, Nat.reduceSub, Nat.reduceMul, Nat.reduceLeDiff, Nat.reduceLT, Nat.reduceEqDiff, Nat.reduceBEq, Int.reduceToNat, Int.reduceNeg, Int.reduceEq, Int.reduceNe, Int.reduceLE, Int.reduceLT, reduceCtorEq, ↓reduceIte]
        refine ⟨by omega, by omega, getM_at hx ?_⟩
        simp only [vx, vz, Nat.reduceAdd, Nat.reduceSub, Nat.reduceMul, Nat.reduceLeDiff, Nat.reduceLT, Nat.reduceEqDiff, Nat.reduceBEq, Int.reduceToNat, Int.reduceNeg, Int.reduceEq, Int.reduceNe, Int.reduceLE, Int.reduceLT, reduceCtorEq, ↓reduceIte]
        simp only [vx, vz, Nat.reduceAdd, Nat.reduceSub, Nat.reduceMul, Nat.reduceLeDiff, Nat.reduceLT, Nat.reduceEqDiff, Nat.reduceBEq, Int.reduceToNat, Int.reduceNeg, Int.reduceEq, Int.reduceNe, Int.reduceLE, Int.reduceLT, reduceCtorEq, ↓reduceIte, iD]
        refine ls_n (i + 1, s + x) (by simp only; omega) (weak_any ?_) ⟨by simp only; omega, by simp only; omega, by simp only; omega, h4⟩
        simp only [vx, vz, Nat.reduceAdd, Nat.reduceSub, Nat.reduceMul, Nat.reduceLeDiff, Nat.reduceLT, Nat.reduceEqDiff, Nat.reduceBEq, Int.reduceToNat, Int.reduceNeg, Int.reduceEq, Int.reduceNe, Int.reduceLE, Int.reduceLT, reduceCtorEq, ↓reduceIte]
        rw [wr_i64 (by omega) (by omega), wr_i64 (by omega) (by omega)]
        trivial
  · simp only [decide_eq_false_iff_not] at hc
    rw [drop_end (by omega), totG] at h4
    have ht : tot l = s := by rw [tot, h4]; rfl
    simp only [vx, vz, Nat.reduceAdd, Nat.reduceSub, Nat.reduceMul, Nat.reduceLeDiff, Nat.reduceLT, Nat.reduceEqDiff, Nat.reduceBEq, Int.reduceToNat, Int.reduceNeg, Int.reduceEq, Int.reduceNe, Int.reduceLE, Int.reduceLT, reduceCtorEq, ↓reduceIte]
    refine cond_split (fun hc2 => ?_) (fun hc2 => ?_)
    · simp only [decide_eq_true_eq] at hc2
      have h0 : ¬ 0 < tot l := by omega
      simp only [vx, vz, Nat.reduceAdd, Nat.reduceSub, Nat.reduceMul, Nat.reduceLeDiff, Nat.reduceLT, Nat.reduceEqDiff, Nat.reduceBEq, Int.reduceToNat, Int.reduceNeg, Int.reduceEq, Int.reduceNe, Int.reduceLE, Int.reduceLT, reduceCtorEq, ↓reduceIte, wgtV, if_neg h0]
    · simp only [decide_eq_false_iff_not] at hc2
      have h0 : 0 < tot l := by omega
      obtain ⟨_, hw, hs, hx⟩ := tot_facts h0
      obtain ⟨hb1, hb2⟩ := belX_lt (k := k) (c := c) (n := tot l) (by omega) (by omega)
      rw [← ht]
      simp only [vx, vz, Nat.reduceAdd, Nat.reduceSub, Nat.reduceMul, Nat.reduceLeDiff, Nat.reduceLT, Nat.reduceEqDiff, Nat.reduceBEq, Int.reduceToNat, Int.reduceNeg, Int.reduceEq, Int.reduceNe, Int.reduceLE, Int.reduceLT, reduceCtorEq, ↓reduceIte, wgtV, if_pos h0]
      have hb := t48 k c (tot l)
      rw [belV_ok (by omega) (by omega)] at hb
      refine call_p rfl (hb) ?_
      simp only [vx, vz, Nat.reduceAdd, Nat.reduceSub, Nat.reduceMul, Nat.reduceLeDiff, Nat.reduceLT, Nat.reduceEqDiff, Nat.reduceBEq, Int.reduceToNat, Int.reduceNeg, Int.reduceEq, Int.reduceNe, Int.reduceLE, Int.reduceLT, reduceCtorEq, ↓reduceIte]
      refine loop_st (fun p : Nat × Int => ⟨mkF 66 [(1, wsV l), (5, .optr 2 1 1 0 0), (10, .optr 2 2 1 0 0), (9, .d (.int .i64 p.2)), (12, .d (.int .i64 p.1))], [.live 2 [[w64 k, w64 c]], .live 2 [[.d (.int .u64 0), .d (.int .u64 0)]], .live 2 [[w64 k, w64 (belC k c (tot l))]]]⟩) (fun p => p.1 ≤ l.length ∧ 0 ≤ p.2 ∧ p.2 < (l.drop p.1).sum ∧ pck l (belX k c (tot l)) = p.1 + pck (l.drop p.1) p.2 ∧ p.2 ≤ 1099511627776) (fun p => l.length - p.1) (0, belX k c (tot l)) (weak_any (by simp only [vx, vz, Nat.reduceAdd, Nat.reduceSub, Nat.reduceMul, Nat.reduceLeDiff, Nat.reduceLT, Nat.reduceEqDiff, Nat.reduceBEq, Int.reduceToNat, Int.reduceNeg, Int.reduceEq, Int.reduceNe, Int.reduceLE, Int.reduceLT, reduceCtorEq, ↓reduceIte]; try trivial)) ⟨by simp, hb1, by rw [List.drop_zero]; simp only; omega, by simp, by simp only; omega⟩ (fun p hp => ?_)
      obtain ⟨i, x⟩ := p
      obtain ⟨h1, h2, h3, h4, h5⟩ := hp
      simp only at h1 h2 h3 h4 h5
      by_cases hi : i < l.length
      · obtain ⟨w, hx⟩ := get_ex (l := l) (i := i) (by omega)
        have hwn := hw w (List.mem_of_getElem? hx)
        rw [drop_at hx, List.sum_cons] at h3
        rw [drop_at hx, pck] at h4
        simp only [vx, vz, Nat.reduceAdd, Nat.reduceSub, Nat.reduceMul, Nat.reduceLeDiff, Nat.reduceLT, Nat.reduceEqDiff, Nat.reduceBEq, Int.reduceToNat, Int.reduceNeg, Int.reduceEq, Int.reduceNe, Int.reduceLE, Int.reduceLT, reduceCtorEq, ↓reduceIte]
        refine ⟨by omega, by omega, getM_at hx ?_⟩
        simp only [vx, vz, Nat.reduceAdd, Nat.reduceSub, Nat.reduceMul, Nat.reduceLeDiff, Nat.reduceLT, Nat.reduceEqDiff, Nat.reduceBEq, Int.reduceToNat, Int.reduceNeg, Int.reduceEq, Int.reduceNe, Int.reduceLE, Int.reduceLT, reduceCtorEq, ↓reduceIte]
        simp only [vx, vz, Nat.reduceAdd, Nat.reduceSub, Nat.reduceMul, Nat.reduceLeDiff, Nat.reduceLT, Nat.reduceEqDiff, Nat.reduceBEq, Int.reduceToNat, Int.reduceNeg, Int.reduceEq, Int.reduceNe, Int.reduceLE, Int.reduceLT, reduceCtorEq, ↓reduceIte, iD]
        refine cond_split (fun hc2 => ?_) (fun hc2 => ?_)
        · simp only [decide_eq_true_eq] at hc2
          rw [if_neg (by omega)] at h4
          simp only [vx, vz, Nat.reduceAdd, Nat.reduceSub, Nat.reduceMul, Nat.reduceLeDiff, Nat.reduceLT, Nat.reduceEqDiff, Nat.reduceBEq, Int.reduceToNat, Int.reduceNeg, Int.reduceEq, Int.reduceNe, Int.reduceLE, Int.reduceLT, reduceCtorEq, ↓reduceIte]
          refine ⟨by omega, by omega, getM_at hx ?_⟩
          simp only [vx, vz, Nat.reduceAdd, Nat.reduceSub, Nat.reduceMul, Nat.reduceLeDiff, Nat.reduceLT, Nat.reduceEqDiff, Nat.reduceBEq, Int.reduceToNat, Int.reduceNeg, Int.reduceEq, Int.reduceNe, Int.reduceLE, Int.reduceLT, reduceCtorEq, ↓reduceIte]
          simp only [vx, vz, Nat.reduceAdd, Nat.reduceSub, Nat.reduceMul, Nat.reduceLeDiff, Nat.reduceLT, Nat.reduceEqDiff, Nat.reduceBEq, Int.reduceToNat, Int.reduceNeg, Int.reduceEq, Int.reduceNe, Int.reduceLE, Int.reduceLT, reduceCtorEq, ↓reduceIte, iD]
          refine ls_n (i + 1, x - w) (by simp only; omega) (weak_any ?_) ⟨by simp only; omega, by simp only; omega, by simp only; omega, by simp only; omega, by simp only; omega⟩
          simp only [vx, vz, Nat.reduceAdd, Nat.reduceSub, Nat.reduceMul, Nat.reduceLeDiff, Nat.reduceLT, Nat.reduceEqDiff, Nat.reduceBEq, Int.reduceToNat, Int.reduceNeg, Int.reduceEq, Int.reduceNe, Int.reduceLE, Int.reduceLT, reduceCtorEq, ↓reduceIte]
          rw [wr_i64 (by omega) (by omega), wr_i64 (by omega) (by omega)]
          trivial
        · simp only [decide_eq_false_iff_not] at hc2
          rw [if_pos (by omega)] at h4
          simp only [vx, vz, Nat.reduceAdd, Nat.reduceSub, Nat.reduceMul, Nat.reduceLeDiff, Nat.reduceLT, Nat.reduceEqDiff, Nat.reduceBEq, Int.reduceToNat, Int.reduceNeg, Int.reduceEq, Int.reduceNe, Int.reduceLE, Int.reduceLT, reduceCtorEq, ↓reduceIte, h4]
          refine c_draw ?_
          simp only [vx, vz, Nat.reduceAdd, Nat.reduceSub, Nat.reduceMul, Nat.reduceLeDiff, Nat.reduceLT, Nat.reduceEqDiff, Nat.reduceBEq, Int.reduceToNat, Int.reduceNeg, Int.reduceEq, Int.reduceNe, Int.reduceLE, Int.reduceLT, reduceCtorEq, ↓reduceIte]
          repeat (refine d_k rfl rfl ?_; simp only [vx, vz, Nat.reduceAdd, Nat.reduceSub, Nat.reduceMul, Nat.reduceLeDiff, Nat.reduceLT, Nat.reduceEqDiff, Nat.reduceBEq, Int.reduceToNat, Int.reduceNeg, Int.reduceEq, Int.reduceNe, Int.reduceLE, Int.reduceLT, reduceCtorEq, ↓reduceIte])
      · rw [drop_end (by omega), List.sum_nil] at h3
        omega
end Go.Proofs.Ar.Rg
