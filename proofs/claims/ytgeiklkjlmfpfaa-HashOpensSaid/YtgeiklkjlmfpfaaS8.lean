import Derived.Test.YtgeiklkjlmfpfaaS7
set_option linter.unusedSimpArgs false
set_option linter.unusedVariables false
namespace Go.Proofs.Hs
open Go.Vx
theorem lsb_iff (c : C) : (c &&& 1#32 = 1#32) ↔ c.getLsbD 0 = true := by
  constructor
  · intro h
    have := congrArg (fun x => BitVec.getLsbD x 0) h
    simpa using this
  · intro h
    apply BitVec.eq_of_getLsbD_eq
    intro i hi
    rw [BitVec.getLsbD_and]
    by_cases h0 : i = 0
    · subst h0; rw [h]; rfl
    · have : (1#32 : C).getLsbD i = false := by
        rw [BitVec.getLsbD_ofNat]
        have : Nat.testBit 1 i = false := by
          cases hh : Nat.testBit 1 i with
          | false => rfl
          | true => exact absurd (Nat.testBit_one_eq_true_iff_self_eq_zero.1 hh) h0
        simp [this]
      rw [this, Bool.and_false]
theorem bitS_bit (c : C) (i : Nat) : (bitS c).getLsbD i = (c.getLsbD (1 + i) ^^ (c.getLsbD 0 && poly.getLsbD i)) := by
  unfold bitS
  by_cases h : c &&& 1#32 = 1#32
  · rw [if_pos h, (lsb_iff c).1 h, BitVec.getLsbD_xor, BitVec.getLsbD_ushiftRight, Bool.true_and]
  · rw [if_neg h, BitVec.getLsbD_ushiftRight]
    have : c.getLsbD 0 = false := by
      cases hh : c.getLsbD 0 with
      | false => rfl
      | true => exact absurd ((lsb_iff c).2 hh) h
    rw [this, Bool.false_and, Bool.xor_false]
theorem poly_top : poly.getLsbD 31 = true := by decide
theorem bitS_inj {a b : C} (h : bitS a = bitS b) : a = b := by
  have hb : ∀ i, (bitS a).getLsbD i = (bitS b).getLsbD i := fun i => by rw [h]
  have h0 : a.getLsbD 0 = b.getLsbD 0 := by
    have := hb 31
    rw [bitS_bit, bitS_bit, poly_top, BitVec.getLsbD_of_ge a (1 + 31) (by omega), BitVec.getLsbD_of_ge b (1 + 31) (by omega)] at this
    simpa using this
  apply BitVec.eq_of_getLsbD_eq
  intro i hi
  cases i with
  | zero => exact h0
  | succ i =>
    have := hb i
    rw [bitS_bit, bitS_bit, h0, Nat.add_comm 1 i] at this
    generalize a.getLsbD (i + 1) = x at *
    generalize b.getLsbD (i + 1) = y at *
    generalize (b.getLsbD 0 && poly.getLsbD i) = z at *
    revert this
    cases x <;> cases y <;> cases z <;> decide
theorem iter_inj {α : Type} {f : α → α} (hf : ∀ a b, f a = f b → a = b) : ∀ (n : Nat) (a b : α), iter f n a = iter f n b → a = b := by
  intro n
  induction n with
  | zero => intro a b h; exact h
  | succ n ih => intro a b h; rw [iter_succ, iter_succ] at h; exact hf _ _ (ih _ _ h)
theorem xor_left_cancel {a b c : C} (h : a ^^^ b = a ^^^ c) : b = c := by
  have := congrArg (a ^^^ ·) h
  simpa [← BitVec.xor_assoc] using this
theorem crcStep_inj {a b : C} {x : UInt8} (h : crcStep a x = crcStep b x) : a = b := by
  have := iter_inj (fun _ _ => bitS_inj) 8 _ _ h
  rw [BitVec.xor_comm a, BitVec.xor_comm b] at this
  exact xor_left_cancel this
theorem b32_inj {x y : UInt8} (h : b32 x = b32 y) : x = y := by
  have hx : x.toNat < 256 := x.toNat_lt
  have hy : y.toNat < 256 := y.toNat_lt
  have := congrArg BitVec.toNat h
  rw [b32, b32, BitVec.toNat_ofNat, BitVec.toNat_ofNat, Nat.mod_eq_of_lt (by omega), Nat.mod_eq_of_lt (by omega)] at this
  exact UInt8.toNat_inj.1 this
theorem crcStep_ne {a : C} {x y : UInt8} (h : crcStep a x = crcStep a y) : x = y :=
  b32_inj (xor_left_cancel (iter_inj (fun _ _ => bitS_inj) 8 _ _ h))
theorem fold_inj : ∀ (q : B) (a b : C), q.foldl crcStep a = q.foldl crcStep b → a = b := by
  intro q
  induction q with
  | nil => intro a b h; exact h
  | cons x q ih => intro a b h; rw [List.foldl_cons, List.foldl_cons] at h; exact crcStep_inj (ih _ _ h)
/-- one changed byte shows -/
theorem crc_ne {p q : B} {x y : UInt8} (h : crcS (p ++ x :: q) = crcS (p ++ y :: q)) : x = y := by
  unfold crcS at h
  rw [BitVec.xor_comm (crcR _), BitVec.xor_comm (crcR _)] at h
  have h := xor_left_cancel h
  unfold crcR at h
  rw [List.foldl_append, List.foldl_append, List.foldl_cons, List.foldl_cons] at h
  exact crcStep_ne (fold_inj _ _ _ h)

theorem dig_nib {c : UInt8} {d : Nat} (h : nib c = some d) : dig d = c := by
  have key : ∀ n : Fin 256, (match nib (UInt8.ofNat n.val) with | some d => dig d == UInt8.ofNat n.val | none => true) = true := by decide +kernel
  have := key ⟨c.toNat, c.toNat_lt⟩
  simp only [UInt8.ofNat_toNat, h, beq_iff_eq] at this
  exact this
/-- the value of digits -/
def valG : B → Nat → Option Nat
  | [], m => some m
  | c :: s, m => match nib c with
    | some d => valG s (m * 16 + d)
    | none => none
theorem valG_cons (c : UInt8) (s : B) (m : Nat) : valG (c :: s) m = match nib c with | some d => valG s (m * 16 + d) | none => none := rfl
theorem read_val : ∀ (s : B) (m : Nat), readG s (BitVec.ofNat 64 m) = (valG s m).map (BitVec.ofNat 64) := by
  intro s
  induction s with
  | nil => intro m; rfl
  | cons c s ih =>
    intro m
    rw [readG_cons, valG_cons]
    cases nib c with
    | none => rfl
    | some d =>
      simp only
      rw [show (16#64 : W) = BitVec.ofNat 64 16 from rfl, ← BitVec.ofNat_mul, ← BitVec.ofNat_add, ih]
theorem val_snoc : ∀ (s : B) (c : UInt8) (m : Nat), valG (s ++ [c]) m = (valG s m).bind fun v => (nib c).map fun d => v * 16 + d := by
  intro s
  induction s with
  | nil =>
    intro c m
    rw [List.nil_append, valG_cons]
    cases nib c <;> rfl
  | cons x s ih =>
    intro c m
    rw [List.cons_append, valG_cons, valG_cons]
    cases nib x with
    | none => rfl
    | some d => exact ih c _
theorem hex_val : ∀ (n : Nat) (d s : B) (v : Nat), d.length = n → valG d 0 = some v → hexN n v s = d ++ s ∧ v < 16 ^ n := by
  intro n
  induction n with
  | zero =>
    intro d s v hd hv
    have : d = [] := List.eq_nil_of_length_eq_zero hd
    subst this
    injection hv with hv; subst hv
    exact ⟨rfl, by decide⟩
  | succ n ih =>
    intro d s v hd hv
    rcases List.eq_nil_or_concat d with rfl | ⟨e, c, rfl⟩
    · simp at hd
    · rw [List.concat_eq_append] at *
      rw [val_snoc] at hv
      obtain ⟨u, h1, h2⟩ := Option.bind_eq_some_iff.1 hv
      obtain ⟨k, h3, rfl⟩ := Option.map_eq_some_iff.1 h2
      have hk := nib_lt h3
      obtain ⟨h4, h5⟩ := ih e (c :: s) u (by simpa using hd) h1
      rw [hexN_succ, show (u * 16 + k) / 16 = u by omega, show (u * 16 + k) % 16 = k by omega, dig_nib h3, h4]
      exact ⟨by simp, by rw [Nat.pow_succ]; omega⟩
theorem hex_rd {d : B} {x : W} (h8 : d.length ≤ 16) (h : rdS d = (x, true)) : hexS x d.length = d := by
  unfold rdS at h
  rw [show (0#64 : W) = BitVec.ofNat 64 0 from rfl, read_val] at h
  cases hv : valG d 0 with
  | none => rw [hv] at h; simp at h
  | some v =>
    rw [hv] at h
    simp only [Option.map_some, Prod.mk.injEq, and_true] at h
    obtain ⟨h1, h2⟩ := hex_val d.length d [] v rfl hv
    have hlt : v < 2 ^ 64 := Nat.lt_of_lt_of_le h2 (by
      have : 16 ^ d.length ≤ 16 ^ 16 := Nat.pow_le_pow_right (by omega) h8
      exact this)
    unfold hexS
    rw [← h, BitVec.toNat_ofNat, Nat.mod_eq_of_lt hlt, h1, List.append_nil]
end Go.Proofs.Hs
