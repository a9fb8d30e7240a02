import Derived.Test.YtapgahonfifgnaaDoorC54
import Derived.Test.YtapgahonfifgnaaDoorVxZ
set_option linter.unusedSimpArgs false
set_option linter.unusedVariables false
namespace Go.Proofs.Sg
open Go.Vx
abbrev W := BitVec 64
abbrev w64 (x : W) : V := .d (.int .u64 (x.toNat : Int))
abbrev w32 (x : BitVec 32) : V := .d (.int .u32 (x.toNat : Int))
theorem one_nat : (1 : Int) = ((1#64 : W).toNat : Int) := by decide
def basis : W := 14695981039346656037#64
def prime : W := 1099511628211#64
theorem prime_nat : (1099511628211 : Int) = (prime.toNat : Int) := by decide
def hasStep (h : W) (b : UInt8) : W := (h ^^^ b64 b) * prime
def hasS (s : B) : W := s.foldl hasStep basis
theorem basis_nat : (14695981039346656037 : Int) = (basis.toNat : Int) := by decide
theorem t35 (s : B) (hl : s.length ≤ maxLen) : CallP Tryd.prog 35 [.d (.str s)] (w64 (hasS s)) := by
  have hm := hm
  refine go35 ac35 rfl ?_
  simp only [vx, vz, Nat.reduceAdd, Nat.reduceSub, Nat.reduceMul, Nat.reduceLeDiff, Nat.reduceLT, Nat.reduceEqDiff, Nat.reduceBEq, Int.reduceToNat, Int.reduceNeg, Int.reduceEq, Int.reduceNe, Int.reduceLE, Int.reduceLT, reduceCtorEq, ↓reduceIte, ac35, basis_nat]
  refine loop_st (fun p : Nat × W => ⟨mkF 19 [(0, .d (.str s)), (3, w64 p.2), (6, .d (.int .i64 s.length)), (7, .d (.int .i64 p.1))], []⟩) (fun p => p.1 ≤ s.length ∧ hasS s = (s.drop p.1).foldl hasStep p.2) (fun p => s.length - p.1) (0, basis) (weak_any (by simp only [vx, vz, Nat.reduceAdd, Nat.reduceSub, Nat.reduceMul, Nat.reduceLeDiff, Nat.reduceLT, Nat.reduceEqDiff, Nat.reduceBEq, Int.reduceToNat, Int.reduceNeg, Int.reduceEq, Int.reduceNe, Int.reduceLE, Int.reduceLT, reduceCtorEq, ↓reduceIte]; try trivial)) ⟨by simp, by rw [List.drop_zero]; rfl⟩ (fun p hp => ?_)
  obtain ⟨i, h⟩ := p
  obtain ⟨h1, h2⟩ := hp
  simp only at h1 h2
  simp only [vx, vz, Nat.reduceAdd, Nat.reduceSub, Nat.reduceMul, Nat.reduceLeDiff, Nat.reduceLT, Nat.reduceEqDiff, Nat.reduceBEq, Int.reduceToNat, Int.reduceNeg, Int.reduceEq, Int.reduceNe, Int.reduceLE, Int.reduceLT, reduceCtorEq, ↓reduceIte]
  refine cond_split (fun hc => ?_) (fun hc => ?_)
  · simp only [decide_eq_true_eq] at hc
    obtain ⟨x, hx⟩ := get_ex (l := s) (i := i) (by omega)
    simp only [vx, vz, Nat.reduceAdd, Nat.reduceSub, Nat.reduceMul, Nat.reduceLeDiff, Nat.reduceLT, Nat.reduceEqDiff, Nat.reduceBEq, Int.reduceToNat, Int.reduceNeg, Int.reduceEq, Int.reduceNe, Int.reduceLE, Int.reduceLT, reduceCtorEq, ↓reduceIte]
    refine ⟨by omega, by omega, getI_at hx ?_⟩
    simp only [vx, vz, Nat.reduceAdd, Nat.reduceSub, Nat.reduceMul, Nat.reduceLeDiff, Nat.reduceLT, Nat.reduceEqDiff, Nat.reduceBEq, Int.reduceToNat, Int.reduceNeg, Int.reduceEq, Int.reduceNe, Int.reduceLE, Int.reduceLT, reduceCtorEq, ↓reduceIte, prime_nat, b64_of, xor64, mul64]
    refine ls_n (i + 1, hasStep h x) (by simp only; omega) (weak_any ?_) ⟨by simp only; omega, by rw [h2, drop_at hx, List.foldl_cons]⟩
    simp only [vx, vz, Nat.reduceAdd, Nat.reduceSub, Nat.reduceMul, Nat.reduceLeDiff, Nat.reduceLT, Nat.reduceEqDiff, Nat.reduceBEq, Int.reduceToNat, Int.reduceNeg, Int.reduceEq, Int.reduceNe, Int.reduceLE, Int.reduceLT, reduceCtorEq, ↓reduceIte, hasStep]
    rw [wr_i64 (by omega) (by omega)]
    trivial
  · simp only [decide_eq_false_iff_not] at hc
    simp only [vx, vz, Nat.reduceAdd, Nat.reduceSub, Nat.reduceMul, Nat.reduceLeDiff, Nat.reduceLT, Nat.reduceEqDiff, Nat.reduceBEq, Int.reduceToNat, Int.reduceNeg, Int.reduceEq, Int.reduceNe, Int.reduceLE, Int.reduceLT, reduceCtorEq, ↓reduceIte]
    rw [h2, drop_end (by omega), List.foldl_nil]
theorem t39 (s : B) (hl : s.length ≤ maxLen) : CallP Tryd.prog 39 [.d (.str s)] (w64 (hasS s)) := by
  have hm := hm
  refine go39 ac39 rfl ?_
  simp only [vx, vz, Nat.reduceAdd, Nat.reduceSub, Nat.reduceMul, Nat.reduceLeDiff, Nat.reduceLT, Nat.reduceEqDiff, Nat.reduceBEq, Int.reduceToNat, Int.reduceNeg, Int.reduceEq, Int.reduceNe, Int.reduceLE, Int.reduceLT, reduceCtorEq, ↓reduceIte, ac39, basis_nat]
  refine loop_st (fun p : Nat × W => ⟨mkF 19 [(0, .d (.str s)), (3, w64 p.2), (4, .d (.int .i64 p.1))], []⟩) (fun p => p.1 ≤ s.length ∧ hasS s = (s.drop p.1).foldl hasStep p.2) (fun p => s.length - p.1) (0, basis) (weak_any (by simp only [vx, vz, Nat.reduceAdd, Nat.reduceSub, Nat.reduceMul, Nat.reduceLeDiff, Nat.reduceLT, Nat.reduceEqDiff, Nat.reduceBEq, Int.reduceToNat, Int.reduceNeg, Int.reduceEq, Int.reduceNe, Int.reduceLE, Int.reduceLT, reduceCtorEq, ↓reduceIte]; try trivial)) ⟨by simp, by rw [List.drop_zero]; rfl⟩ (fun p hp => ?_)
  obtain ⟨i, h⟩ := p
  obtain ⟨h1, h2⟩ := hp
  simp only at h1 h2
  simp only [vx, vz, Nat.reduceAdd, Nat.reduceSub, Nat.reduceMul, Nat.reduceLeDiff, Nat.reduceLT, Nat.reduceEqDiff, Nat.reduceBEq, Int.reduceToNat, Int.reduceNeg, Int.reduceEq, Int.reduceNe, Int.reduceLE, Int.reduceLT, reduceCtorEq, ↓reduceIte]
  refine cond_split (fun hc => ?_) (fun hc => ?_)
  · simp only [decide_eq_true_eq] at hc
    obtain ⟨x, hx⟩ := get_ex (l := s) (i := i) (by omega)
    simp only [vx, vz, Nat.reduceAdd, Nat.reduceSub, Nat.reduceMul, Nat.reduceLeDiff, Nat.reduceLT, Nat.reduceEqDiff, Nat.reduceBEq, Int.reduceToNat, Int.reduceNeg, Int.reduceEq, Int.reduceNe, Int.reduceLE, Int.reduceLT, reduceCtorEq, ↓reduceIte]
    refine ⟨by omega, by omega, getI_at hx ?_⟩
    simp only [vx, vz, Nat.reduceAdd, Nat.reduceSub, Nat.reduceMul, Nat.reduceLeDiff, Nat.reduceLT, Nat.reduceEqDiff, Nat.reduceBEq, Int.reduceToNat, Int.reduceNeg, Int.reduceEq, Int.reduceNe, Int.reduceLE, Int.reduceLT, reduceCtorEq, ↓reduceIte, prime_nat, b64_of, xor64, mul64]
    refine ls_n (i + 1, hasStep h x) (by simp only; omega) (weak_any ?_) ⟨by simp only; omega, by rw [h2, drop_at hx, List.foldl_cons]⟩
    simp only [vx, vz, Nat.reduceAdd, Nat.reduceSub, Nat.reduceMul, Nat.reduceLeDiff, Nat.reduceLT, Nat.reduceEqDiff, Nat.reduceBEq, Int.reduceToNat, Int.reduceNeg, Int.reduceEq, Int.reduceNe, Int.reduceLE, Int.reduceLT, reduceCtorEq, ↓reduceIte, hasStep]
    rw [wr_i64 (by omega) (by omega)]
    trivial
  · simp only [decide_eq_false_iff_not] at hc
    simp only [vx, vz, Nat.reduceAdd, Nat.reduceSub, Nat.reduceMul, Nat.reduceLeDiff, Nat.reduceLT, Nat.reduceEqDiff, Nat.reduceBEq, Int.reduceToNat, Int.reduceNeg, Int.reduceEq, Int.reduceNe, Int.reduceLE, Int.reduceLT, reduceCtorEq, ↓reduceIte]
    rw [h2, drop_end (by omega), List.foldl_nil]
def digs : B := [48, 49, 50, 51, 52, 53, 54, 55, 56, 57, 97, 98, 99, 100, 101, 102]
/-- the digit of a nibble -/
def dig (n : Nat) : UInt8 := digs.getD n 0
theorem dig_get {n : Nat} (h : n < 16) : digs[n]? = some (dig n) := by
  have : ∀ n, n < 16 → digs[n]? = some (dig n) := by decide
  exact this n h
/-- the last n digits, ahead of s -/
def hexN : Nat → Nat → B → B
  | 0, _, s => s
  | n + 1, x, s => hexN n (x / 16) (dig (x % 16) :: s)
theorem hexN_succ (n x : Nat) (s : B) : hexN (n + 1) x s = hexN n (x / 16) (dig (x % 16) :: s) := rfl
def hexS (x : W) (n : Nat) : B := hexN n x.toNat []
theorem hexN_len (n : Nat) : ∀ (x : Nat) (s : B), (hexN n x s).length = n + s.length := by
  induction n with
  | zero => intro x s; simp [hexN]
  | succ n ih => intro x s; rw [hexN_succ, ih]; simp; omega
theorem digs_get {j : Nat} (hj : j < 16) {f : UInt8 → Prop} (h : f (dig j)) : getA digs j f := getA_iff.2 ⟨dig j, dig_get hj, h⟩
theorem digs_len : (digs.length : Int) = 16 := by decide
theorem digs_slice {j : Nat} (hj : j < 16) : (digs.take (j + 1)).drop j = [dig j] := by
  have : ∀ j, j < 16 → (digs.take (j + 1)).drop j = [dig j] := by decide
  exact this j hj
theorem digs_def : ([48, 49, 50, 51, 52, 53, 54, 55, 56, 57, 97, 98, 99, 100, 101, 102] : B) = digs := rfl

theorem t52 (x : W) (n : Nat) (hn : n ≤ 16) : CallP Tryd.prog 52 [w64 x, .d (.int .i64 n)] (.d (.str (hexS x n))) := by
  refine go52 ac52 rfl ?_
  simp only [vx, vz, Nat.reduceAdd, Nat.reduceSub, Nat.reduceMul, Nat.reduceLeDiff, Nat.reduceLT, Nat.reduceEqDiff, Nat.reduceBEq, Int.reduceToNat, Int.reduceNeg, Int.reduceEq, Int.reduceNe, Int.reduceLE, Int.reduceLT, reduceCtorEq, ↓reduceIte, ac52, digs_def]
  refine loop_st (fun p : Nat × Nat × B => ⟨mkF 24 [(0, .d (.int .u64 p.2.1)), (1, .d (.int .i64 n)), (5, .d (.str p.2.2)), (6, .d (.int .i64 p.1))], []⟩) (fun p => p.1 ≤ n ∧ p.2.1 < 2 ^ 64 ∧ p.2.2.length = p.1 ∧ hexS x n = hexN (n - p.1) p.2.1 p.2.2) (fun p => n - p.1) (0, x.toNat, []) (weak_any (by simp only [vx, vz, Nat.reduceAdd, Nat.reduceSub, Nat.reduceMul, Nat.reduceLeDiff, Nat.reduceLT, Nat.reduceEqDiff, Nat.reduceBEq, Int.reduceToNat, Int.reduceNeg, Int.reduceEq, Int.reduceNe, Int.reduceLE, Int.reduceLT, reduceCtorEq, ↓reduceIte]; try trivial)) ⟨by simp, x.isLt, rfl, rfl⟩ (fun p hp => ?_)
  obtain ⟨i, y, s⟩ := p
  obtain ⟨h1, h2, h3, h4⟩ := hp
  simp only at h1 h2 h3 h4
  have ht : (y : Int).tmod 16 = ((y % 16 : Nat) : Int) := by rw [Int.tmod_eq_emod_of_nonneg (by omega)]; omega
  have hd : (y : Int).tdiv 16 = ((y / 16 : Nat) : Int) := by rw [Int.tdiv_eq_ediv_of_nonneg (by omega)]; omega
  have hw : IntKind.u64.wrap (((y % 16 : Nat) : Int) + 1) = ((y % 16 + 1 : Nat) : Int) := by
    rw [wrap_u rfl]; show _ % (2 ^ 64 : Int) = _; omega
  have hq : IntKind.u64.wrap ((y / 16 : Nat) : Int) = ((y / 16 : Nat) : Int) := by
    rw [wrap_u rfl]; show _ % (2 ^ 64 : Int) = _; omega
  simp only [vx, vz, Nat.reduceAdd, Nat.reduceSub, Nat.reduceMul, Nat.reduceLeDiff, Nat.reduceLT, Nat.reduceEqDiff, Nat.reduceBEq, Int.reduceToNat, Int.reduceNeg, Int.reduceEq, Int.reduceNe, Int.reduceLE, Int.reduceLT, reduceCtorEq, ↓reduceIte]
  refine cond_split (fun hc => ?_) (fun hc => ?_)
  · simp only [decide_eq_true_eq] at hc
    simp only [vx, vz, Nat.reduceAdd, Nat.reduceSub, Nat.reduceMul, Nat.reduceLeDiff, Nat.reduceLT, Nat.reduceEqDiff, Nat.reduceBEq, Int.reduceToNat, Int.reduceNeg, Int.reduceEq, Int.reduceNe, Int.reduceLE, Int.reduceLT, reduceCtorEq, ↓reduceIte, ht, hd, hw, hq, digs_slice (show y % 16 < 16 by omega), digs_len]
    refine ⟨by omega, by omega, by omega, by omega, ls_n (i + 1, y / 16, dig (y % 16) :: s) (by simp only; omega) (weak_any ?_) ⟨by simp only; omega, by simp only; omega, by simp [h3], by
      rw [h4, show n - i = (n - (i + 1)) + 1 by omega, hexN_succ]⟩⟩
    simp only [vx, vz, Nat.reduceAdd, Nat.reduceSub, Nat.reduceMul, Nat.reduceLeDiff, Nat.reduceLT, Nat.reduceEqDiff, Nat.reduceBEq, Int.reduceToNat, Int.reduceNeg, Int.reduceEq, Int.reduceNe, Int.reduceLE, Int.reduceLT, reduceCtorEq, ↓reduceIte]
    rw [wr_i64 (by omega) (by omega)]
    trivial
  · simp only [decide_eq_false_iff_not] at hc
    simp only [vx, vz, Nat.reduceAdd, Nat.reduceSub, Nat.reduceMul, Nat.reduceLeDiff, Nat.reduceLT, Nat.reduceEqDiff, Nat.reduceBEq, Int.reduceToNat, Int.reduceNeg, Int.reduceEq, Int.reduceNe, Int.reduceLE, Int.reduceLT, reduceCtorEq, ↓reduceIte]
    rw [h4, show n - i = 0 by omega]; rfl

/-- the bytes of an array -/
abbrev byV (s : B) : List (List V) := s.map fun b => [.d (.int .u8 b.toNat)]
theorem and_15 (y : Nat) (h : y < 2 ^ 64) : IntKind.u64.wrap ((BitVec.ofInt IntKind.u64.bits (y : Int) &&& BitVec.ofInt IntKind.u64.bits 15).toNat : Int) = ((y % 16 : Nat) : Int) := by
  have e1 : (15 : Int) = ((15#64 : W).toNat : Int) := by decide
  have e2 : (y : Int) = ((BitVec.ofNat 64 y).toNat : Int) := by rw [BitVec.toNat_ofNat, Nat.mod_eq_of_lt h]
  rw [e1, e2, and64, BitVec.toNat_and, BitVec.toNat_ofNat, Nat.mod_eq_of_lt h]
  show ((y &&& (2 ^ 4 - 1) : Nat) : Int) = _
  rw [Nat.and_two_pow_sub_one_eq_mod]
theorem shr_4 (y : Nat) : (y : Int) / (2 : Int) ^ (min 4 IntKind.u64.bits) = ((y / 16 : Nat) : Int) := by
  show (y : Int) / 2 ^ 4 = _
  omega
def rowH (m : Nat) (s : B) : List (List V) := List.replicate m [.d (.int .u8 0)] ++ byV s
theorem rowH_len (m : Nat) (s : B) : (rowH m s).length = m + s.length := by simp [rowH]
theorem rowH_get {m i : Nat} {s : B} (h : i < m) : (rowH m s)[i]? = some [.d (.int .u8 0)] := by
  unfold rowH
  rw [List.getElem?_append_left (by simpa using h), List.getElem?_replicate]
  simp [h]
theorem rowH_set {m : Nat} {s : B} {b : UInt8} : (rowH (m + 1) s).set m [.d (.int .u8 b.toNat)] = rowH m (b :: s) := by
  unfold rowH
  rw [List.set_append_left _ _ (by simp), List.replicate_succ', List.set_append_right _ _ (by simp)]
  simp
theorem byV_back (s : B) : (∀ e ∈ byV s, isByte e) ∧ (byV s).map byteOfV = s := by
  refine ⟨fun e he => ?_, ?_⟩
  · obtain ⟨b, _, rfl⟩ := List.mem_map.1 he
    exact ⟨_, rfl⟩
  · rw [List.map_map]
    have : (byteOfV ∘ fun b : UInt8 => [V.d (D.int .u8 (b.toNat : Int))]) = id := by
      funext b
      simp [byteOfV]
    rw [this, List.map_id]
theorem t51 (x : W) (n : Nat) (hn : n ≤ 16) : CallP Tryd.prog 51 [w64 x, .d (.int .i64 n)] (.d (.str (hexS x n))) := by
  refine go51 ac51 rfl ?_
  simp only [vx, vz, Nat.reduceAdd, Nat.reduceSub, Nat.reduceMul, Nat.reduceLeDiff, Nat.reduceLT, Nat.reduceEqDiff, Nat.reduceBEq, Int.reduceToNat, Int.reduceNeg, Int.reduceEq, Int.reduceNe, Int.reduceLE, Int.reduceLT, reduceCtorEq, ↓reduceIte, ac51, digs_def]
  refine ⟨by omega, by omega, by omega, by omega, ?_⟩
  rw [show List.replicate n ([.d (.int .u8 0)] : List V) = rowH (n - 0) [] by simp [rowH]]
  refine loop_st (fun p : Nat × Nat × B => ⟨mkF 27 [(0, .d (.int .u64 p.2.1)), (1, .d (.int .i64 n)), (5, .osl 1 0 n 0 n), (9, .d (.int .i64 n)), (10, .d (.int .i64 p.1))], [.live 1 (rowH (n - p.1) p.2.2)]⟩) (fun p => p.1 ≤ n ∧ p.2.1 < 2 ^ 64 ∧ p.2.2.length = p.1 ∧ hexS x n = hexN (n - p.1) p.2.1 p.2.2) (fun p => n - p.1) (0, x.toNat, []) (weak_any (by simp only [vx, vz, Nat.reduceAdd, Nat.reduceSub, Nat.reduceMul, Nat.reduceLeDiff, Nat.reduceLT, Nat.reduceEqDiff, Nat.reduceBEq, Int.reduceToNat, Int.reduceNeg, Int.reduceEq, Int.reduceNe, Int.reduceLE, Int.reduceLT, reduceCtorEq, ↓reduceIte]; try trivial)) ⟨by simp, x.isLt, rfl, rfl⟩ (fun p hp => ?_)
  obtain ⟨i, y, s⟩ := p
  obtain ⟨h1, h2, h3, h4⟩ := hp
  simp only at h1 h2 h3 h4
  have hlen : (rowH (n - i) s).length = n := by rw [rowH_len]; omega
  simp only [vx, vz, Nat.reduceAdd, Nat.reduceSub, Nat.reduceMul, Nat.reduceLeDiff, Nat.reduceLT, Nat.reduceEqDiff, Nat.reduceBEq, Int.reduceToNat, Int.reduceNeg, Int.reduceEq, Int.reduceNe, Int.reduceLE, Int.reduceLT, reduceCtorEq, ↓reduceIte]
  refine cond_split (fun hc => ?_) (fun hc => ?_)
  · simp only [decide_eq_true_eq] at hc
    simp only [vx, vz, Nat.reduceAdd, Nat.reduceSub, Nat.reduceMul, Nat.reduceLeDiff, Nat.reduceLT, Nat.reduceEqDiff, Nat.reduceBEq, Int.reduceToNat, Int.reduceNeg, Int.reduceEq, Int.reduceNe, Int.reduceLE, Int.reduceLT, reduceCtorEq, ↓reduceIte, and_15 y h2, digs_len]
    refine ⟨by omega, by omega, digs_get (by omega) ?_⟩
    simp only [vx, vz, Nat.reduceAdd, Nat.reduceSub, Nat.reduceMul, Nat.reduceLeDiff, Nat.reduceLT, Nat.reduceEqDiff, Nat.reduceBEq, Int.reduceToNat, Int.reduceNeg, Int.reduceEq, Int.reduceNe, Int.reduceLE, Int.reduceLT, reduceCtorEq, ↓reduceIte, hlen]
    rw [wr_i64 (n := (n : Int) - 1) (by omega) (by omega), wr_i64 (n := (n : Int) - 1 - i) (by omega) (by omega), show ((n : Int) - 1 - i).toNat = n - (i + 1) by omega]
    refine ⟨by omega, by omega, getA_iff.2 ⟨_, rowH_get (by omega), ?_⟩⟩
    simp only [vx, vz, Nat.reduceAdd, Nat.reduceSub, Nat.reduceMul, Nat.reduceLeDiff, Nat.reduceLT, Nat.reduceEqDiff, Nat.reduceBEq, Int.reduceToNat, Int.reduceNeg, Int.reduceEq, Int.reduceNe, Int.reduceLE, Int.reduceLT, reduceCtorEq, ↓reduceIte, shr_4]
    rw [show (rowH (n - i) s).set (n - (i + 1)) [V.d (D.int IntKind.u8 ((dig (y % 16)).toNat : Int))] = rowH (n - (i + 1)) (dig (y % 16) :: s) by
      rw [show n - i = (n - (i + 1)) + 1 by omega]; exact rowH_set]
    refine ls_n (i + 1, y / 16, dig (y % 16) :: s) (by simp only; omega) (weak_any ?_) ⟨by simp only; omega, by simp only; omega, by simp [h3], by
      rw [h4, show n - i = (n - (i + 1)) + 1 by omega, hexN_succ]⟩
    simp only [vx, vz, Nat.reduceAdd, Nat.reduceSub, Nat.reduceMul, Nat.reduceLeDiff, Nat.reduceLT, Nat.reduceEqDiff, Nat.reduceBEq, Int.reduceToNat, Int.reduceNeg, Int.reduceEq, Int.reduceNe, Int.reduceLE, Int.reduceLT, reduceCtorEq, ↓reduceIte]
    rw [wr_i64 (by omega) (by omega)]
    trivial
  · simp only [decide_eq_false_iff_not] at hc
    simp only [vx, vz, Nat.reduceAdd, Nat.reduceSub, Nat.reduceMul, Nat.reduceLeDiff, Nat.reduceLT, Nat.reduceEqDiff, Nat.reduceBEq, Int.reduceToNat, Int.reduceNeg, Int.reduceEq, Int.reduceNe, Int.reduceLE, Int.reduceLT, reduceCtorEq, ↓reduceIte, hlen]
    have hi : n - i = 0 := by omega
    have hn2 : n = s.length := by omega
    rw [h4, hi, hexN, rowH, List.replicate_zero, List.nil_append, List.take_of_length_le (by simp [hn2])]
    exact byV_back s
theorem t34 (x : W) : CallP Tryd.prog 34 [w64 x] (.d (.str (hexS x 16))) := by
  refine go34 ac34 rfl ?_
  simp only [vx, vz, Nat.reduceAdd, Nat.reduceSub, Nat.reduceMul, Nat.reduceLeDiff, Nat.reduceLT, Nat.reduceEqDiff, Nat.reduceBEq, Int.reduceToNat, Int.reduceNeg, Int.reduceEq, Int.reduceNe, Int.reduceLE, Int.reduceLT, reduceCtorEq, ↓reduceIte, ac34]
  refine call_p rfl (t51 x 16 (by omega)) ?_
  simp only [vx, vz, Nat.reduceAdd, Nat.reduceSub, Nat.reduceMul, Nat.reduceLeDiff, Nat.reduceLT, Nat.reduceEqDiff, Nat.reduceBEq, Int.reduceToNat, Int.reduceNeg, Int.reduceEq, Int.reduceNe, Int.reduceLE, Int.reduceLT, reduceCtorEq, ↓reduceIte]
theorem t38 (x : W) : CallP Tryd.prog 38 [w64 x] (.d (.str (hexS x 16))) := by
  refine go38 ac38 rfl ?_
  simp only [vx, vz, Nat.reduceAdd, Nat.reduceSub, Nat.reduceMul, Nat.reduceLeDiff, Nat.reduceLT, Nat.reduceEqDiff, Nat.reduceBEq, Int.reduceToNat, Int.reduceNeg, Int.reduceEq, Int.reduceNe, Int.reduceLE, Int.reduceLT, reduceCtorEq, ↓reduceIte, ac38]
  refine call_p rfl (t52 x 16 (by omega)) ?_
  simp only [vx, vz, Nat.reduceAdd, Nat.reduceSub, Nat.reduceMul, Nat.reduceLeDiff, Nat.reduceLT, Nat.reduceEqDiff, Nat.reduceBEq, Int.reduceToNat, Int.reduceNeg, Int.reduceEq, Int.reduceNe, Int.reduceLE, Int.reduceLT, reduceCtorEq, ↓reduceIte]

end Go.Proofs.Sg
