import Derived.Test.YtacjcacadekceaaDoorVxArg5
import Derived.Test.YtacjcacadekceaaDoorRows
set_option linter.unusedSimpArgs false
set_option linter.unusedVariables false
namespace Go.Proofs.Dr
open Go.Vx Go.Proofs.YtacjcacadekceaaDoor
theorem bk_part {H : Type} {d : DataW H} : ∀ {l : List (DataW H)}, d ∈ l → Rows.uptoBulk d ≤ Rows.uptoBulkAll l
  | x :: r, h => by
    simp only [Rows.uptoBulkAll]
    rcases List.mem_cons.1 h with rfl | h
    · omega
    · have := bk_part h; omega
theorem bk_one {H : Type} (d : DataW H) : 1 ≤ Rows.uptoBulk d := by
  cases d with
  | lit l => cases l <;> simp [Rows.uptoBulk]
  | _ => simp [Rows.uptoBulk]
theorem bk_len {H : Type} : ∀ l : List (DataW H), l.length ≤ Rows.uptoBulkAll l
  | [] => by simp [Rows.uptoBulkAll]
  | x :: r => by have h1 := bk_one x; have h2 := bk_len r; simp only [Rows.uptoBulkAll, List.length_cons]; omega
theorem wt_all {H : Type} {P : Program} {e : TypeId} : ∀ {l : List (DataW H)} {m : Nat}, m ∈ DataW.weightsAll P e l → ∃ d ∈ l, m ∈ d.weights P e
  | d0 :: l, m, h => by
    simp only [DataW.weightsAll, List.mem_append] at h
    rcases h with h | h
    · exact ⟨d0, by simp, h⟩
    · obtain ⟨d, h1, h2⟩ := wt_all h
      exact ⟨d, by simp [h1], h2⟩
theorem wt_each {H : Type} {P : Program} : ∀ {ts : List TypeId} {l : List (DataW H)} {m : Nat}, m ∈ DataW.weightsEach P ts l → ∃ t ∈ ts, ∃ d ∈ l, m ∈ d.weights P t
  | t :: ts, d0 :: l, m, h => by
    simp only [DataW.weightsEach, List.mem_append] at h
    rcases h with h | h
    · exact ⟨t, by simp, d0, by simp, h⟩
    · obtain ⟨t', k1, d, h1, h2⟩ := wt_each h
      exact ⟨t', by simp [k1], d, by simp [h1], h2⟩
  | [], l, m, h => by cases l <;> simp [DataW.weightsEach] at h
  | t :: ts, [], m, h => by simp [DataW.weightsEach] at h
/-- what a reading weighs, by its bulk -/
theorem wt_bulk {H : Type} {P : Program} {S : List TypeId} {C : Nat} (hS : recS P S = true) (hC : ∀ t ∈ S, P.bytesOf t ≤ C) (h1 : 1 ≤ C) : ∀ (n : Nat) (d : DataW H) (t : TypeId), SizeOf.sizeOf d < n → t ∈ S → ∀ m ∈ d.weights P t, m ≤ C * Rows.uptoBulk d := by
  intro n
  induction n with
  | zero => intro d t hz; omega
  | succ n ih =>
    intro d t hz ht m hm
    have hp := List.all_eq_true.1 hS t ht
    have sub : ∀ (l : List (DataW H)) (e : TypeId), (SizeOf.sizeOf l ≤ n) → e ∈ S → ∀ k ∈ DataW.weightsAll P e l, k ≤ C * Rows.uptoBulkAll l := by
      intro l e hl he k hk
      obtain ⟨d', h3, h4⟩ := wt_all hk
      have h5 := List.sizeOf_lt_of_mem h3
      have h6 := ih d' e (by omega) he k h4
      exact Nat.le_trans h6 (Nat.mul_le_mul_left _ (bk_part h3))
    cases d with
    | lit l =>
      cases l with
      | string b =>
        simp only [DataW.weights, List.mem_cons, List.not_mem_nil, or_false] at hm
        subst hm
        simp only [Rows.uptoBulk]
        have : 1 * (b.length + 1) ≤ C * (b.length + 1) := Nat.mul_le_mul_right _ h1
        omega
      | _ => simp [DataW.weights] at hm
    | nil => simp [DataW.weights] at hm
    | held h => simp [DataW.weights] at hm
    | iface a b => simp [DataW.weights] at hm
    | ptr d =>
      simp only [DataW.weights] at hm
      split at hm
      · rename_i e he
        rw [he] at hp; simp at hp
      · cases hm
    | map es =>
      simp only [DataW.weights] at hm
      split at hm
      · rename_i k e he
        rw [he] at hp; simp at hp
      · cases hm
    | slice el sp =>
      simp only [DataW.weights] at hm
      split at hm
      · rename_i e he
        rw [he] at hp
        simp only [Bool.and_eq_true, decide_eq_true_eq, List.contains_iff_mem] at hp
        simp only [Rows.uptoBulk]
        simp only [DataW.slice.sizeOf_spec] at hz
        rcases List.mem_cons.1 hm with rfl | hm
        · have h7 := bk_len el
          have h8 := bk_len sp
          rw [Nat.mul_comm]
          exact Nat.mul_le_mul (hC e hp.1) (by omega)
        · rcases List.mem_append.1 hm with hm | hm
          · exact Nat.le_trans (sub el e (by omega) hp.1 m hm) (Nat.mul_le_mul_left _ (by omega))
          · exact Nat.le_trans (sub sp e (by omega) hp.1 m hm) (Nat.mul_le_mul_left _ (by omega))
      · cases hm
    | agg ps =>
      simp only [DataW.weights] at hm
      simp only [Rows.uptoBulk]
      simp only [DataW.agg.sizeOf_spec] at hz
      split at hm
      · rename_i fs he
        rw [he] at hp
        simp only [Bool.and_eq_true, List.all_eq_true] at hp
        obtain ⟨t', k1, d', k2, k3⟩ := wt_each hm
        obtain ⟨f, hf, rfl⟩ := List.mem_map.1 k1
        have h5 := List.sizeOf_lt_of_mem k2
        have h6 := ih d' f.type (by omega) (List.contains_iff_mem.1 (hp.2 f hf)) m k3
        exact Nat.le_trans h6 (Nat.mul_le_mul_left _ (by have := bk_part k2; omega))
      · rename_i k e he
        rw [he] at hp
        simp only [Bool.and_eq_true, beq_iff_eq, List.contains_iff_mem] at hp
        exact Nat.le_trans (sub ps e (by omega) hp.1 m hm) (Nat.mul_le_mul_left _ (by omega))
      · cases hm
theorem wt_args {H : Type} {P : Program} {S : List TypeId} {C : Nat} (hS : recS P S = true) (hC : ∀ t ∈ S, P.bytesOf t ≤ C) (h1 : 1 ≤ C) {ts : List TypeId} {ds : List (DataW H)} (ht : ∀ t ∈ ts, t ∈ S) (hk : Rows.uptoSmall H ds = true) :
    (DataW.weightsEach P ts ds).all (· ≤ C * 1048576) = true := by
  have hb := of_decide_eq_true hk
  refine List.all_eq_true.2 fun m hm => decide_eq_true ?_
  obtain ⟨t, k1, d, k2, k3⟩ := wt_each hm
  have := wt_bulk hS hC h1 _ d t (Nat.lt_succ_self _) (ht t k1) m k3
  exact Nat.le_trans this (Nat.mul_le_mul_left _ (Nat.le_trans (bk_part k2) hb))
end Go.Proofs.Dr
