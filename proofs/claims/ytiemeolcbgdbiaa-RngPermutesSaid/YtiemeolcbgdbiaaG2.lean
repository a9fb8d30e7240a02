import Derived.Test.YtiemeolcbgdbiaaG1
set_option linter.unusedSimpArgs false
set_option linter.unusedVariables false
namespace Go.Proofs.Rg
open Go.Vx
def unS (y : W) (n : Nat) (x : W) : W := y ^^^ x >>> n
theorem unS_ok (x : W) (n : Nat) (hn : 22 ≤ n) : unS (x ^^^ x >>> n) n (unS (x ^^^ x >>> n) n (x ^^^ x >>> n)) = x := by
  unfold unS
  apply BitVec.eq_of_getLsbD_eq
  intro i hi
  simp only [BitVec.getLsbD_xor, BitVec.getLsbD_ushiftRight]
  have h3 : x.getLsbD (n + (n + (n + i))) = false := BitVec.getLsbD_of_ge _ _ (by omega)
  rw [h3]
  generalize x.getLsbD i = a
  generalize x.getLsbD (n + i) = b
  generalize x.getLsbD (n + (n + i)) = c
  cases a <;> cases b <;> cases c <;> rfl

def i1 : W := 10871156337175269513#64
def i2 : W := 3573116690164977347#64
def ig : W := 17428512612931826493#64
theorem i1_ok : c1 * i1 = 1#64 := by decide
theorem i2_ok : c2 * i2 = 1#64 := by decide
theorem ig_ok : gold * ig = 1#64 := by decide
def un2 (y : W) (n : Nat) : W := unS y n (unS y n y)
def undoS (y : W) : W := un2 (un2 (un2 y 31 * i2) 27 * i1) 30
theorem un2_ok (x : W) (n : Nat) (hn : 22 ≤ n) : un2 (x ^^^ x >>> n) n = x := unS_ok x n hn
theorem undo_fin (x : W) : undoS (finS x) = x := by
  unfold undoS finS
  simp only
  rw [un2_ok _ 31 (by omega), BitVec.mul_assoc, i2_ok, BitVec.mul_one, un2_ok _ 27 (by omega), BitVec.mul_assoc, i1_ok, BitVec.mul_one, un2_ok _ 30 (by omega)]
theorem mix_inj {k a b : W} (h : mixS k a = mixS k b) : a = b := by
  have h1 := congrArg undoS h
  unfold mixS at h1
  rw [undo_fin, undo_fin] at h1
  have h2 : gold * (a + 1#64) = gold * (b + 1#64) := by
    have := congrArg (· - k) h1
    simpa [BitVec.add_comm k, BitVec.add_sub_cancel] using this
  have e : ∀ z : W, gold * z * ig = z := fun z => by rw [BitVec.mul_comm gold, BitVec.mul_assoc, ig_ok, BitVec.mul_one]
  have h3 := congrArg (· * ig) h2
  simp only [e] at h3
  have := congrArg (· - 1#64) h3
  simpa [BitVec.add_sub_cancel] using this
end Go.Proofs.Rg
