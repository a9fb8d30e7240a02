import Derived.Test.YtfoncpamepepmaaVxSound3
set_option linter.unusedSimpArgs false
set_option linter.unusedVariables false
namespace Go.Vx
section
variable {P : Program} {c : Cx} {K : V → List (Nat × RowS) → Prop}

theorem splice_get {α : Type} (l us : List α) (p m : Nat) (h : p + us.length ≤ l.length) :
    (l.take p ++ us ++ l.drop (p + us.length))[m]? = if m < p then l[m]? else if m < p + us.length then us[m - p]? else l[m]? := by
  simp only [List.getElem?_append, List.getElem?_take, List.getElem?_drop, List.length_append, List.length_take]
  grind

theorem splice_len {α : Type} (l us : List α) (p : Nat) (h : p + us.length ≤ l.length) : (l.take p ++ us ++ l.drop (p + us.length)).length = l.length := by
  simp; omega

theorem mul_lt_of {i i' sz j : Nat} (h : i' < i) (hj : j < sz) : i' * sz + j < i * sz := by
  have : (i' + 1) * sz ≤ i * sz := Nat.mul_le_mul_right _ h
  rw [Nat.succ_mul] at this
  omega

theorem cont_set {sz : Nat} {es : List (List V)} {arr : Array Value} (hc : Cont c sz es arr) {i : Nat} {e : List V} (he : es[i]? = some e)
    {off : Nat} {us : List Value} {cs : List V} (hoff : off + cs.length ≤ sz) (hl : RepL c us cs) (ho : ∀ x ∈ cs, oneV x = true) :
    Cont c sz (es.set i (setR e off cs)) (arr.toList.take (i * sz + off) ++ us ++ arr.toList.drop (i * sz + off + us.length)).toArray := by
  have hi := (List.getElem?_eq_some_iff.1 he).1
  obtain ⟨hel, heo⟩ := hc.1 e (List.mem_of_getElem? he)
  have hfit : i * sz + off + us.length ≤ arr.toList.length := by
    have := mul_lt_of (sz := sz + 0) (Nat.lt_of_lt_of_le hi (Nat.le_refl _)) (j := 0)
    have h2 : (i + 1) * sz ≤ es.length * sz := Nat.mul_le_mul_right _ hi
    have h3 := hc.2.1
    rw [Nat.succ_mul] at h2
    rw [hl.1]
    simp
    omega
  have hlen : (setR e off cs).length = sz := by
    have := splice_len e cs off (by omega)
    simp only [setR]; omega
  have hal : (arr.toList.take (i * sz + off) ++ us ++ arr.toList.drop (i * sz + off + us.length)).toArray.size = arr.size := by
    have := splice_len _ _ _ hfit
    simpa only [List.size_toArray, Array.length_toList] using this
  refine ⟨fun e' he' => ?_, by rw [hal, List.length_set]; exact hc.2.1, fun i' e' j v h1 h2 => ?_⟩
  · rcases List.mem_or_eq_of_mem_set he' with h | h
    · exact hc.1 e' h
    · subst h
      refine ⟨hlen, fun v hv => ?_⟩
      simp only [setR, List.mem_append] at hv
      rcases hv with (hv | hv) | hv
      · exact heo v (List.mem_of_mem_take hv)
      · exact ho v hv
      · exact heo v (List.mem_of_mem_drop hv)
  · simp only [List.getElem?_toArray]
    rw [splice_get _ _ _ _ hfit, hl.1]
    have hj : j < sz := by
      have hlt := (List.getElem?_eq_some_iff.1 h2).1
      rw [List.getElem?_set] at h1
      split at h1
      · injection h1 with h1; subst h1; omega
      · have := (hc.1 _ (List.mem_of_getElem? h1)).1; omega
    by_cases hii : i = i'
    · subst hii
      simp [hi] at h1
      subst h1
      simp only [setR] at h2
      rw [splice_get e cs off j (by omega)] at h2
      by_cases h3 : j < off
      · rw [if_pos h3] at h2
        rw [if_pos (by omega)]
        simpa using hc.2.2 i e j v he h2
      · rw [if_neg h3] at h2
        rw [if_neg (by omega)]
        by_cases h4 : j < off + cs.length
        · rw [if_pos h4] at h2
          rw [if_pos (by omega), show i * sz + j - (i * sz + off) = j - off by omega]
          exact hl.get h2
        · rw [if_neg h4] at h2
          rw [if_neg (by omega)]
          simpa using hc.2.2 i e j v he h2
    · rw [List.getElem?_set_ne hii] at h1
      have := hc.2.2 i' e' j v h1 h2
      rcases Nat.lt_or_gt_of_ne hii with hlt | hlt
      · have h5 := mul_lt_of (sz := sz) (j := sz - 1) hlt (by omega)
        rw [if_neg (by omega), if_neg (by omega)]
        simpa using this
      · have h5 := mul_lt_of (sz := sz) (j := j) hlt hj
        rw [if_pos (by omega)]
        simpa using this

theorem res_store (ok : Ok c) {t : TypeId} {sz : Nat} {x a : Opd} {ev : Opd → V} {hf : Nat} {ua ux : Value} (hs : SzOf P t sz)
    (hra : Rep c ua (ev a)) (hrx : Rep c ux (ev x)) (h : opW (.store sz a x) ev c.rows hf K) :
    ∃ v ups c', K v ups ∧ (Instr.storeAt t ua ux).run P c.w = .ok () c'.w ∧ Ok c' ∧ Ext c c' ∧ c'.rows = setRows c.rows ups ∧ v = .any := by
  simp only [opW] at h
  split at h
  · rename_i s hh n i off hx
    rw [hx] at hra
    obtain ⟨hlive, hi, hoff, h⟩ := h
    obtain ⟨b, hρ, rfl⟩ := rep_optr hra hlive
    obtain ⟨cs, hcl, ho, hl, hk⟩ := cells_of hrx h
    obtain ⟨es, hrow, rfl⟩ := hlive
    have he : es[i]? = some (es[i]'hi) := List.getElem?_eq_getElem hi
    obtain ⟨arr, ty, fz, hb, hfz, hc⟩ := row_cells ok hrow hρ
    have hfit : i * s + off + ux.cells.toList.length ≤ arr.size := by
      have h2 : (i + 1) * s ≤ es.length * s := Nat.mul_le_mul_right _ hi
      have h3 := hc.2.1
      rw [Nat.succ_mul] at h2
      rw [hl.1]
      omega
    have hco := cont_set hc he (off := off) (by omega) hl ho
    have hup := upd_ok ok hh b s es (es.set i (setR (es[i]'hi) off cs)) arr _ ty fz hrow hρ hb hfz (by simp; simp at hfit; omega) (by simp) hco
    refine ⟨_, _, _, hk es _ hrow he, ?_, hup.1, hup.2, rfl, rfl⟩
    have hone : ∀ v ∈ ux.cells.toList, v.oneCell' = true := fun v hv => by
      obtain ⟨j, hj, rfl⟩ := List.getElem_of_mem hv
      have hj' : j < cs.length := by rw [← hl.1]; exact hj
      exact (hl.2 j _ _ (List.getElem?_eq_getElem hj') (List.getElem?_eq_getElem hj)).one (ho _ (List.getElem_mem hj'))
    have hst := run_storeCells_fz (P := P) b (i * s + off) ty fz ux.cells.toList 0 arr c.w hb hfz (by simpa using hfit) hone
    simp only [Nat.add_zero] at hst
    have hsz : ux.cells.size = sz := by have := hl.1; simp at this; omega
    simp [Instr.storeAt, Instr.sureAddr, storeVar, run_sizeOf' hs, hsz, hst]
  · exact h.elim

end
end Go.Vx
