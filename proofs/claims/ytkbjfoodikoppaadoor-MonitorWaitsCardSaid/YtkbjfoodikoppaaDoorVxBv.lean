import Derived.Test.YtkbjfoodikoppaaDoorVxAll
import Derived.Test.YtkbjfoodikoppaaDoorVxLaw
set_option linter.unusedSectionVars false
set_option linter.unusedSimpArgs false
set_option linter.unusedVariables false
namespace Go.Vx

/-! Unsigned words of 64 and 32 bits as bit vectors. -/

theorem bits64 : IntKind.u64.bits = 64 := rfl
theorem bits32 : IntKind.u32.bits = 32 := rfl
theorem bits8 : IntKind.u8.bits = 8 := rfl
theorem wrap_u {k : IntKind} (h : k.signed = false) (n : Int) : k.wrap n = n % (2 ^ k.bits : Int) := by
  simp [IntKind.wrap, h]
theorem w64_of (n : Int) : IntKind.u64.wrap n = ((BitVec.ofInt 64 n).toNat : Int) := by
  rw [wrap_u rfl, BitVec.toNat_ofInt]
  show n % 2 ^ 64 = _
  have := Int.emod_nonneg n (b := ((2 ^ 64 : Nat) : Int)) (by decide)
  rw [Int.toNat_of_nonneg this]; rfl
theorem w32_of (n : Int) : IntKind.u32.wrap n = ((BitVec.ofInt 32 n).toNat : Int) := by
  rw [wrap_u rfl, BitVec.toNat_ofInt]
  show n % 2 ^ 32 = _
  have := Int.emod_nonneg n (b := ((2 ^ 32 : Nat) : Int)) (by decide)
  rw [Int.toNat_of_nonneg this]; rfl
theorem w8_of (n : Int) : IntKind.u8.wrap n = ((BitVec.ofInt 8 n).toNat : Int) := by
  rw [wrap_u rfl, BitVec.toNat_ofInt]
  show n % 2 ^ 8 = _
  have := Int.emod_nonneg n (b := ((2 ^ 8 : Nat) : Int)) (by decide)
  rw [Int.toNat_of_nonneg this]; rfl
theorem ofInt_nat {w : Nat} (x : BitVec w) : BitVec.ofInt w (x.toNat : Int) = x := by
  apply BitVec.eq_of_toNat_eq
  rw [BitVec.toNat_ofInt]
  have := x.isLt
  rw [← Int.natCast_emod, Nat.mod_eq_of_lt this]; rfl
theorem ofInt_add {w : Nat} (a b : Int) : BitVec.ofInt w (a + b) = BitVec.ofInt w a + BitVec.ofInt w b := BitVec.ofInt_add a b
theorem ofInt_mul {w : Nat} (a b : Int) : BitVec.ofInt w (a * b) = BitVec.ofInt w a * BitVec.ofInt w b := BitVec.ofInt_mul a b
theorem ofInt_sub {w : Nat} (a b : Int) : BitVec.ofInt w (a - b) = BitVec.ofInt w a - BitVec.ofInt w b := by
  rw [Int.sub_eq_add_neg, BitVec.ofInt_add, BitVec.ofInt_neg, BitVec.sub_eq_add_neg]
theorem shr_nat {w : Nat} (x : BitVec w) (n : Nat) : (x.toNat : Int) / 2 ^ n = ((x >>> n).toNat : Int) := by
  rw [BitVec.toNat_ushiftRight, Nat.shiftRight_eq_div_pow, Int.natCast_ediv]
  simp
theorem tmod_nat {w : Nat} (x y : BitVec w) : (x.toNat : Int).tmod (y.toNat : Int) = ((x % y).toNat : Int) := by
  rw [BitVec.toNat_umod, Int.natCast_emod, Int.tmod_eq_emod_of_nonneg (by omega)]
theorem eq_nat {w : Nat} (x y : BitVec w) : ((x.toNat : Int) = (y.toNat : Int)) = (x = y) := by
  rw [Int.natCast_inj, eq_iff_iff]
  exact ⟨BitVec.eq_of_toNat_eq, fun h => by rw [h]⟩
theorem bv_u64 {a : Int} (h : 0 ≤ a ∧ a ≤ 18446744073709551615) : ∃ x : BitVec 64, a = (x.toNat : Int) :=
  ⟨BitVec.ofInt 64 a, by rw [BitVec.toNat_ofInt, Int.toNat_of_nonneg (by omega)]; omega⟩
theorem bv_u8 {a : Int} (h : 0 ≤ a ∧ a ≤ 255) : ∃ x : UInt8, a = (x.toNat : Int) :=
  ⟨UInt8.ofNat a.toNat, by simp; omega⟩

theorem add64 (x y : BitVec 64) : IntKind.u64.wrap ((x.toNat : Int) + (y.toNat : Int)) = ((x + y).toNat : Int) := by
  rw [w64_of, ofInt_add, ofInt_nat, ofInt_nat]
theorem sub64 (x y : BitVec 64) : IntKind.u64.wrap ((x.toNat : Int) - (y.toNat : Int)) = ((x - y).toNat : Int) := by
  rw [w64_of, ofInt_sub, ofInt_nat, ofInt_nat]
theorem mul64 (x y : BitVec 64) : IntKind.u64.wrap ((x.toNat : Int) * (y.toNat : Int)) = ((x * y).toNat : Int) := by
  rw [w64_of, ofInt_mul, ofInt_nat, ofInt_nat]
theorem xor64 (x y : BitVec 64) : IntKind.u64.wrap ((BitVec.ofInt IntKind.u64.bits (x.toNat : Int) ^^^ BitVec.ofInt IntKind.u64.bits (y.toNat : Int)).toNat : Int) = ((x ^^^ y).toNat : Int) := by
  show IntKind.u64.wrap ((BitVec.ofInt 64 (x.toNat : Int) ^^^ BitVec.ofInt 64 (y.toNat : Int)).toNat : Int) = _
  rw [w64_of, ofInt_nat, ofInt_nat, ofInt_nat]
theorem and64 (x y : BitVec 64) : IntKind.u64.wrap ((BitVec.ofInt IntKind.u64.bits (x.toNat : Int) &&& BitVec.ofInt IntKind.u64.bits (y.toNat : Int)).toNat : Int) = ((x &&& y).toNat : Int) := by
  show IntKind.u64.wrap ((BitVec.ofInt 64 (x.toNat : Int) &&& BitVec.ofInt 64 (y.toNat : Int)).toNat : Int) = _
  rw [w64_of, ofInt_nat, ofInt_nat, ofInt_nat]
theorem or64 (x y : BitVec 64) : IntKind.u64.wrap ((BitVec.ofInt IntKind.u64.bits (x.toNat : Int) ||| BitVec.ofInt IntKind.u64.bits (y.toNat : Int)).toNat : Int) = ((x ||| y).toNat : Int) := by
  show IntKind.u64.wrap ((BitVec.ofInt 64 (x.toNat : Int) ||| BitVec.ofInt 64 (y.toNat : Int)).toNat : Int) = _
  rw [w64_of, ofInt_nat, ofInt_nat, ofInt_nat]
theorem shr64 (x : BitVec 64) (n : Nat) (h : n ≤ 64) : (x.toNat : Int) / 2 ^ (min n IntKind.u64.bits) = ((x >>> n).toNat : Int) := by
  show (x.toNat : Int) / 2 ^ (min n 64) = _
  rw [shr_nat, Nat.min_eq_left h]
theorem shl64 (x : BitVec 64) (n : Nat) (h : n ≤ 64) : IntKind.u64.wrap ((x.toNat : Int) * 2 ^ (min n IntKind.u64.bits)) = ((x <<< n).toNat : Int) := by
  show IntKind.u64.wrap ((x.toNat : Int) * 2 ^ (min n 64)) = _
  rw [Nat.min_eq_left h, w64_of]
  congr 1
  rw [BitVec.toNat_ofInt, BitVec.toNat_shiftLeft, Nat.shiftLeft_eq]
  have : (x.toNat : Int) * 2 ^ n = ((x.toNat * 2 ^ n : Nat) : Int) := by simp
  rw [this, ← Int.natCast_emod]; rfl
theorem not64 (x : BitVec 64) : IntKind.u64.wrap ((BitVec.ofInt IntKind.u64.bits (if IntKind.u64.signed = true then -1 else IntKind.u64.max) ^^^ BitVec.ofInt IntKind.u64.bits (x.toNat : Int)).toNat : Int) = ((BitVec.allOnes 64 ^^^ x).toNat : Int) := by
  have e : (if IntKind.u64.signed = true then (-1 : Int) else IntKind.u64.max) = ((BitVec.allOnes 64).toNat : Int) := by decide
  rw [e]
  exact xor64 (BitVec.allOnes 64) x
theorem same64 (x : BitVec 64) : IntKind.u64.wrap (x.toNat : Int) = (x.toNat : Int) := by rw [w64_of, ofInt_nat]
theorem eq64 (x y : BitVec 64) : decide ((x.toNat : Int) = (y.toNat : Int)) = decide (x = y) := by
  rw [decide_eq_decide, eq_nat]
theorem ne64 (x y : BitVec 64) : decide ((x.toNat : Int) ≠ (y.toNat : Int)) = decide (x ≠ y) := by
  rw [decide_eq_decide, ne_eq, ne_eq, eq_nat]
/-- a byte as a word -/
def b64 (b : UInt8) : BitVec 64 := BitVec.ofNat 64 b.toNat
theorem b64_of (b : UInt8) : IntKind.u64.wrap (b.toNat : Int) = ((b64 b).toNat : Int) := by
  have h : b.toNat < 256 := b.toNat_lt
  have e : (b64 b).toNat = b.toNat := by
    rw [b64, BitVec.toNat_ofNat, Nat.mod_eq_of_lt]
    exact Nat.lt_of_lt_of_le h (by decide)
  rw [wrap_u rfl, e]
  refine Int.emod_eq_of_lt (by omega) ?_
  show ((b.toNat : Nat) : Int) < 2 ^ 64
  have : (256 : Int) ≤ 2 ^ 64 := by decide
  omega
theorem add32 (x y : BitVec 32) : IntKind.u32.wrap ((x.toNat : Int) + (y.toNat : Int)) = ((x + y).toNat : Int) := by
  rw [w32_of, ofInt_add, ofInt_nat, ofInt_nat]
theorem sub32 (x y : BitVec 32) : IntKind.u32.wrap ((x.toNat : Int) - (y.toNat : Int)) = ((x - y).toNat : Int) := by
  rw [w32_of, ofInt_sub, ofInt_nat, ofInt_nat]
theorem mul32 (x y : BitVec 32) : IntKind.u32.wrap ((x.toNat : Int) * (y.toNat : Int)) = ((x * y).toNat : Int) := by
  rw [w32_of, ofInt_mul, ofInt_nat, ofInt_nat]
theorem xor32 (x y : BitVec 32) : IntKind.u32.wrap ((BitVec.ofInt IntKind.u32.bits (x.toNat : Int) ^^^ BitVec.ofInt IntKind.u32.bits (y.toNat : Int)).toNat : Int) = ((x ^^^ y).toNat : Int) := by
  show IntKind.u32.wrap ((BitVec.ofInt 32 (x.toNat : Int) ^^^ BitVec.ofInt 32 (y.toNat : Int)).toNat : Int) = _
  rw [w32_of, ofInt_nat, ofInt_nat, ofInt_nat]
theorem and32 (x y : BitVec 32) : IntKind.u32.wrap ((BitVec.ofInt IntKind.u32.bits (x.toNat : Int) &&& BitVec.ofInt IntKind.u32.bits (y.toNat : Int)).toNat : Int) = ((x &&& y).toNat : Int) := by
  show IntKind.u32.wrap ((BitVec.ofInt 32 (x.toNat : Int) &&& BitVec.ofInt 32 (y.toNat : Int)).toNat : Int) = _
  rw [w32_of, ofInt_nat, ofInt_nat, ofInt_nat]
theorem or32 (x y : BitVec 32) : IntKind.u32.wrap ((BitVec.ofInt IntKind.u32.bits (x.toNat : Int) ||| BitVec.ofInt IntKind.u32.bits (y.toNat : Int)).toNat : Int) = ((x ||| y).toNat : Int) := by
  show IntKind.u32.wrap ((BitVec.ofInt 32 (x.toNat : Int) ||| BitVec.ofInt 32 (y.toNat : Int)).toNat : Int) = _
  rw [w32_of, ofInt_nat, ofInt_nat, ofInt_nat]
theorem shr32 (x : BitVec 32) (n : Nat) (h : n ≤ 32) : (x.toNat : Int) / 2 ^ (min n IntKind.u32.bits) = ((x >>> n).toNat : Int) := by
  show (x.toNat : Int) / 2 ^ (min n 32) = _
  rw [shr_nat, Nat.min_eq_left h]
theorem shl32 (x : BitVec 32) (n : Nat) (h : n ≤ 32) : IntKind.u32.wrap ((x.toNat : Int) * 2 ^ (min n IntKind.u32.bits)) = ((x <<< n).toNat : Int) := by
  show IntKind.u32.wrap ((x.toNat : Int) * 2 ^ (min n 32)) = _
  rw [Nat.min_eq_left h, w32_of]
  congr 1
  rw [BitVec.toNat_ofInt, BitVec.toNat_shiftLeft, Nat.shiftLeft_eq]
  have : (x.toNat : Int) * 2 ^ n = ((x.toNat * 2 ^ n : Nat) : Int) := by simp
  rw [this, ← Int.natCast_emod]; rfl
theorem not32 (x : BitVec 32) : IntKind.u32.wrap ((BitVec.ofInt IntKind.u32.bits (if IntKind.u32.signed = true then -1 else IntKind.u32.max) ^^^ BitVec.ofInt IntKind.u32.bits (x.toNat : Int)).toNat : Int) = ((BitVec.allOnes 32 ^^^ x).toNat : Int) := by
  have e : (if IntKind.u32.signed = true then (-1 : Int) else IntKind.u32.max) = ((BitVec.allOnes 32).toNat : Int) := by decide
  rw [e]
  exact xor32 (BitVec.allOnes 32) x
theorem same32 (x : BitVec 32) : IntKind.u32.wrap (x.toNat : Int) = (x.toNat : Int) := by rw [w32_of, ofInt_nat]
theorem eq32 (x y : BitVec 32) : decide ((x.toNat : Int) = (y.toNat : Int)) = decide (x = y) := by
  rw [decide_eq_decide, eq_nat]
theorem ne32 (x y : BitVec 32) : decide ((x.toNat : Int) ≠ (y.toNat : Int)) = decide (x ≠ y) := by
  rw [decide_eq_decide, ne_eq, ne_eq, eq_nat]
/-- a byte as a word -/
def b32 (b : UInt8) : BitVec 32 := BitVec.ofNat 32 b.toNat
theorem b32_of (b : UInt8) : IntKind.u32.wrap (b.toNat : Int) = ((b32 b).toNat : Int) := by
  have h : b.toNat < 256 := b.toNat_lt
  have e : (b32 b).toNat = b.toNat := by
    rw [b32, BitVec.toNat_ofNat, Nat.mod_eq_of_lt]
    exact Nat.lt_of_lt_of_le h (by decide)
  rw [wrap_u rfl, e]
  refine Int.emod_eq_of_lt (by omega) ?_
  show ((b.toNat : Nat) : Int) < 2 ^ 32
  have : (256 : Int) ≤ 2 ^ 32 := by decide
  omega
theorem conv_3264 (x : BitVec 32) : IntKind.u64.wrap (x.toNat : Int) = ((x.zeroExtend 64).toNat : Int) := by
  have h := x.isLt
  have e : (x.zeroExtend 64).toNat = x.toNat := by
    rw [BitVec.toNat_setWidth, Nat.mod_eq_of_lt]
    exact Nat.lt_of_lt_of_le h (by decide)
  rw [wrap_u rfl, e]
  refine Int.emod_eq_of_lt (by omega) ?_
  show ((x.toNat : Nat) : Int) < 2 ^ 64
  have : (2 ^ 32 : Int) ≤ 2 ^ 64 := by decide
  have : ((x.toNat : Nat) : Int) < 2 ^ 32 := by exact_mod_cast h
  omega
end Go.Vx
