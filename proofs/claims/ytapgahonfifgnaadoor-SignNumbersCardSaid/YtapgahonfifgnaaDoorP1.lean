import Derived.Test.YtapgahonfifgnaaDoorS11
set_option linter.unusedSimpArgs false
set_option linter.unusedVariables false
namespace Go.Proofs.Sg
open Go.Vx
/-- does the place belong to the sort? -/
def selB (l : List Rz) (k : B) (x : Nat) : Bool := match l[x]? with
  | some r => fldS r && decide (srtS r.sg = k)
  | none => false
def selN (l : List Rz) (i : Nat) (k : B) : List Nat := (List.range i).filter (selB l k)
def selS (l : List Rz) (i : Nat) (k : B) : List Int := (selN l i k).map (fun x : Nat => (x : Int))
theorem selB_at {l : List Rz} {k : B} {x : Nat} {r : Rz} (h : l[x]? = some r) : selB l k x = (fldS r && decide (srtS r.sg = k)) := by rw [selB, h]
theorem sel_succ {l : List Rz} {i : Nat} {k : B} : selS l (i + 1) k = selS l i k ++ (if selB l k i = true then [(i : Int)] else []) := by
  rw [selS, selN, List.range_succ, List.filter_append, List.map_append]
  congr 1
  by_cases h : selB l k i = true <;> simp [h]
theorem sel_mem {l : List Rz} {i x : Nat} {k : B} : (x : Int) ∈ selS l i k ↔ x < i ∧ selB l k x = true := by
  simp only [selS, selN, List.mem_map, List.mem_filter, List.mem_range]
  constructor
  · rintro ⟨a, h, e⟩
    obtain rfl : a = x := by omega
    exact h
  · exact fun h => ⟨x, h, rfl⟩
theorem sel_asc {l : List Rz} {i : Nat} {k : B} : (selN l i k).Pairwise (· < ·) := List.Pairwise.filter _ List.pairwise_lt_range
/-- the buckets of the first i results -/
structure Bg (l : List Rz) (i : Nat) (bs : List Bk) : Prop where
  nd : ∀ (j m : Nat) (p q : Bk), bs[j]? = some p → bs[m]? = some q → p.1 = q.1 → j = m
  eq : ∀ p ∈ bs, p.2 = selS l i p.1
  ne : ∀ p ∈ bs, p.2 ≠ []
  cov : ∀ x r, x < i → l[x]? = some r → fldS r = true → ∃ p ∈ bs, p.1 = srtS r.sg
theorem Bg.skip {l : List Rz} {i : Nat} {bs : List Bk} (h : Bg l i bs) {r : Rz} (hr : l[i]? = some r) (hf : fldS r = false) : Bg l (i + 1) bs := by
  refine ⟨h.nd, fun p hp => ?_, h.ne, fun x r' hx hr' hf' => ?_⟩
  · rw [sel_succ, selB_at hr, hf]; simp; exact h.eq p hp
  · by_cases hxi : x = i
    · subst hxi; rw [hr] at hr'; injection hr' with hr'; subst hr'; rw [hf] at hf'; cases hf'
    · exact h.cov x r' (by omega) hr' hf'
theorem Bg.step {l : List Rz} {i : Nat} {bs : List Bk} (h : Bg l i bs) {r : Rz} (hr : l[i]? = some r) (hf : fldS r = true) : Bg l (i + 1) (insB (srtS r.sg) (i : Int) bs) := by
  have hsel : ∀ k : B, selS l (i + 1) k = if srtS r.sg = k then selS l i k ++ [(i : Int)] else selS l i k := fun k => by
    rw [sel_succ, selB_at hr, hf]
    by_cases hk : srtS r.sg = k <;> simp [hk]
  rcases key_find (srtS r.sg) bs 0 (.nils) [(i : Int)] with ⟨j, p, k1, k2, k3, _, _⟩ | ⟨k1, _, _, _⟩
  · rw [ins_old k1 k2 k3]
    have hk : ∀ (m : Nat) (q : Bk), (bs.set j (srtS r.sg, p.2 ++ [(i : Int)]))[m]? = some q → (m = j ∧ q = (srtS r.sg, p.2 ++ [(i : Int)])) ∨ (m ≠ j ∧ bs[m]? = some q) := fun m q hq => by
      rw [List.getElem?_set] at hq
      split at hq
      · next e =>
        subst e
        split at hq
        · injection hq with hq; exact .inl ⟨rfl, hq.symm⟩
        · cases hq
      · next e => exact .inr ⟨fun e' => e e'.symm, hq⟩
    refine ⟨fun a b q q' h1 h2 h3 => ?_, fun q hq => ?_, fun q hq => ?_, fun x r' hx hr' hf' => ?_⟩
    · rcases hk a q h1 with ⟨ea, eq1⟩ | ⟨ha, g1⟩
      · rcases hk b q' h2 with ⟨eb, eq2⟩ | ⟨hb, g2⟩
        · omega
        · rw [ea]; exact h.nd j b p q' k1 g2 (by rw [k2, ← h3, eq1])
      · rcases hk b q' h2 with ⟨eb, eq2⟩ | ⟨hb, g2⟩
        · rw [eb]; exact h.nd a j q p g1 k1 (by rw [k2, h3, eq2])
        · exact h.nd a b q q' g1 g2 h3
    · obtain ⟨m, hm, rfl⟩ := List.getElem_of_mem hq
      rcases hk m _ (List.getElem?_eq_getElem hm) with ⟨rfl, e⟩ | ⟨hmj, e⟩
      · rw [e, hsel, if_pos rfl]
        simp only
        rw [← k2, ← h.eq p (List.mem_of_getElem? k1)]
      · rw [hsel, if_neg (fun hh => hmj (h.nd m j _ p e k1 (hh.symm.trans k2.symm)))]
        exact h.eq _ (List.mem_of_getElem? e)
    · obtain ⟨m, hm, rfl⟩ := List.getElem_of_mem hq
      rcases hk m _ (List.getElem?_eq_getElem hm) with ⟨rfl, e⟩ | ⟨hmj, e⟩
      · rw [e]; simp
      · exact h.ne _ (List.mem_of_getElem? e)
    · have hmem : ∀ q ∈ bs, ∃ q' ∈ bs.set j (srtS r.sg, p.2 ++ [(i : Int)]), q'.1 = q.1 := fun q hq => by
        obtain ⟨m, hm, rfl⟩ := List.getElem_of_mem hq
        by_cases hmj : m = j
        · subst hmj
          refine ⟨(srtS r.sg, p.2 ++ [(i : Int)]), List.mem_of_getElem? (List.getElem?_set_self hm), ?_⟩
          have : bs[m] = p := by rw [List.getElem?_eq_getElem hm] at k1; injection k1
          rw [this, k2]
        · exact ⟨bs[m], List.mem_of_getElem? (i := m) (by rw [List.getElem?_set_ne (fun e => hmj e.symm)]; exact List.getElem?_eq_getElem hm), rfl⟩
      by_cases hxi : x = i
      · subst hxi; rw [hr] at hr'; injection hr' with hr'; subst hr'
        obtain ⟨q', h1, h2⟩ := hmem p (List.mem_of_getElem? k1)
        exact ⟨q', h1, by rw [h2, k2]⟩
      · obtain ⟨q, h1, h2⟩ := h.cov x r' (by omega) hr' hf'
        obtain ⟨q', h3, h4⟩ := hmem q h1
        exact ⟨q', h3, by rw [h4, h2]⟩
  · rw [ins_new k1]
    have hempty : selS l i (srtS r.sg) = [] := by
      rw [List.eq_nil_iff_forall_not_mem]
      intro y hy
      obtain ⟨x, hx, rfl⟩ := List.mem_map.1 hy
      obtain ⟨hx1, hx2⟩ := sel_mem.1 hy
      rw [selB] at hx2
      cases hlx : l[x]? with
      | none => rw [hlx] at hx2; cases hx2
      | some r' =>
        rw [hlx] at hx2
        simp only [Bool.and_eq_true, decide_eq_true_eq] at hx2
        obtain ⟨p, hp, hp2⟩ := h.cov x r' hx1 hlx hx2.1
        exact k1 p hp (by rw [hp2, hx2.2])
    have hk : ∀ (m : Nat) (q : Bk), (bs ++ [(srtS r.sg, [(i : Int)])])[m]? = some q → bs[m]? = some q ∨ (m = bs.length ∧ q = (srtS r.sg, [(i : Int)])) := fun m q hq => by
      rw [List.getElem?_append] at hq
      split at hq
      · exact .inl hq
      · rw [List.getElem?_singleton] at hq
        split at hq
        · injection hq with hq; exact .inr ⟨by omega, hq.symm⟩
        · cases hq
    refine ⟨fun a b q q' h1 h2 h3 => ?_, fun q hq => ?_, fun q hq => ?_, fun x r' hx hr' hf' => ?_⟩
    · rcases hk a q h1 with h1 | ⟨h1, e1⟩
      · rcases hk b q' h2 with h2 | ⟨h2, e2⟩
        · exact h.nd a b q q' h1 h2 h3
        · subst e2; exact absurd h3 (k1 q (List.mem_of_getElem? h1))
      · rcases hk b q' h2 with h2 | ⟨h2, e2⟩
        · subst e1; exact absurd h3.symm (k1 q' (List.mem_of_getElem? h2))
        · omega
    · rcases List.mem_append.1 hq with hq | hq
      · rw [hsel, if_neg (fun hh => k1 q hq hh.symm)]; exact h.eq q hq
      · simp at hq; subst hq; rw [hsel, if_pos rfl, hempty]; rfl
    · rcases List.mem_append.1 hq with hq | hq
      · exact h.ne q hq
      · simp at hq; subst hq; simp
    · by_cases hxi : x = i
      · subst hxi; rw [hr] at hr'; injection hr' with hr'; subst hr'
        exact ⟨_, List.mem_append_right _ (List.mem_singleton_self _), rfl⟩
      · obtain ⟨q, h1, h2⟩ := h.cov x r' (by omega) hr' hf'
        exact ⟨q, List.mem_append_left _ h1, h2⟩
theorem bg_go (l : List Rz) : ∀ (t : List Rz) (i : Nat) (bs : List Bk), l.drop i = t → Bg l i bs → Bg l (i + t.length) (bucG t i bs) := by
  intro t
  induction t with
  | nil => intro i bs _ h; exact h
  | cons r t ih =>
    intro i bs hd h
    have hr : l[i]? = some r := by
      have := congrArg (fun l => l[0]?) hd
      simpa using this
    have hd2 : l.drop (i + 1) = t := by
      have := congrArg (List.drop 1) hd
      simpa [List.drop_drop] using this
    rw [bucG, List.length_cons, show i + (t.length + 1) = i + 1 + t.length by omega]
    refine ih (i + 1) _ hd2 ?_
    cases hf : fldS r with
    | true => rw [if_pos rfl]; exact h.step hr hf
    | false => rw [if_neg (by decide)]; exact h.skip hr hf
theorem bg_all (l : List Rz) : Bg l l.length (bucS l) := by
  have := bg_go l l 0 [] rfl ⟨by simp, by simp, by simp, fun x r h => by omega⟩
  rwa [Nat.zero_add] at this
theorem sel_len {l : List Rz} {i : Nat} {k : B} : (selS l i k).length ≤ i := by
  rw [selS, selN, List.length_map]
  exact Nat.le_trans (List.length_filter_le _ _) (by simp)
theorem ins_len {k : B} {i : Int} {bs : List Bk} : (insB k i bs).length ≤ bs.length + 1 := by
  induction bs with
  | nil => exact Nat.le_refl _
  | cons p l ih => rw [insB]; split <;> simp only [List.length_cons] <;> omega
theorem buc_len (l : List Rz) : ∀ (i : Nat) (bs : List Bk), (bucG l i bs).length ≤ bs.length + l.length := by
  induction l with
  | nil => intro i bs; exact Nat.le_refl _
  | cons r l ih =>
    intro i bs
    rw [bucG]
    have := ih (i + 1) (if fldS r = true then insB (srtS r.sg) i bs else bs)
    have h2 := ins_len (k := srtS r.sg) (i := (i : Int)) (bs := bs)
    have h3 : (if fldS r = true then insB (srtS r.sg) i bs else bs).length ≤ bs.length + 1 := by split <;> omega
    simp only [List.length_cons]; omega
theorem bucS_len (l : List Rz) : (bucS l).length ≤ l.length := by
  have := buc_len l 0 []
  simpa [bucS] using this
theorem bk_len {l : List Rz} {p : Bk} (h : p ∈ bucS l) : p.2.length ≤ l.length := by
  rw [(bg_all l).eq p h]; exact sel_len
end Go.Proofs.Sg
