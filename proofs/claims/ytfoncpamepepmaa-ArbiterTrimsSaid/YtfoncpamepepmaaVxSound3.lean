import Derived.Test.YtfoncpamepepmaaVxSound2
set_option linter.unusedSimpArgs false
set_option linter.unusedVariables false
namespace Go.Vx
section
variable {P : Program} {c : Cx} {K : V → List (Nat × RowS) → Prop} {rows : Rows}

/-- The cells of a value, as cellsW tells them. -/
theorem cells_of {u : Value} {v : V} {sz : Nat} {K' : List V → Prop} (hr : Rep c u v) (h : cellsW v sz K') :
    ∃ cs, cs.length = sz ∧ (∀ x ∈ cs, oneV x = true) ∧ RepL c u.cells.toList cs ∧ K' cs := by
  unfold cellsW at h
  split at h
  · rename_i cs
    cases hr with | agg vs _ hlen hrep =>
    exact ⟨cs, h.1, h.2.1, ⟨by simpa [Value.cells] using hlen, fun j v x h1 h2 => hrep j v x h1 (by simpa [Value.cells] using h2)⟩, h.2.2⟩
  · exact h.elim
  · exact h.elim
  all_goals
    obtain ⟨rfl, hk⟩ := h
    have hone := hr.one rfl
    refine ⟨_, rfl, by simp [oneV], ?_, hk⟩
    have hc : u.cells = #[u] := by cases u <;> first | rfl | (simp [Value.oneCell'] at hone)
    rw [hc]
    refine ⟨rfl, fun j v x h1 h2 => ?_⟩
    cases j with
    | zero => simp at h1 h2; subst h1 h2; exact hr
    | succ j => simp at h1

theorem RepL.get {us : List Value} {vs : List V} (h : RepL c us vs) {j : Nat} {v : V} (hj : vs[j]? = some v) : ∃ x, us[j]? = some x ∧ Rep c x v := by
  have hlt := (List.getElem?_eq_some_iff.1 hj).1
  have : us[j]? = some (us[j]'(by rw [h.1]; exact hlt)) := List.getElem?_eq_getElem _
  exact ⟨_, this, h.2 j v _ hj this⟩

theorem RepL.mono {c0 : Cx} (hx : Ext c0 c) (ok : Ok c0) {us : List Value} {vs : List V} (h : RepL c0 us vs) : RepL c us vs :=
  ⟨h.1, fun j v x h1 h2 => (h.2 j v x h1 h2).mono hx ok⟩

theorem cont_one {us : List Value} {cs : List V} (hl : RepL c us cs) (ho : ∀ x ∈ cs, oneV x = true) : Cont c cs.length [cs] us.toArray := by
  refine ⟨fun e he => ?_, by simp [hl.1], fun i e j v h1 h2 => ?_⟩
  · simp at he; subst he; exact ⟨rfl, ho⟩
  · cases i with
    | zero =>
      simp at h1; subst h1
      obtain ⟨x, hx, hr⟩ := hl.get h2
      exact ⟨x, by simpa using hx, hr⟩
    | succ i => simp at h1

theorem res_box (ok : Ok c) {t : TypeId} {sz : Nat} {x : Opd} {ev : Opd → V} {hf : Nat} {u : Value} (hu : c.rows[hf]? = some .un)
    (hr : Rep c u (ev x)) (h : opW (.box sz x) ev c.rows hf K) : Res c ((Instr.box t u).run P c.w) K := by
  simp only [opW] at h
  obtain ⟨cs, rfl, ho, hl, hk⟩ := cells_of hr h
  have hal := alloc_ok ok hf cs.length [cs] u.cells t (0, 0) (.inl hu) (fun i _ => by omega) (by simpa using cont_one hl ho) (c.w.alloc (.cells u.cells t)) rfl rfl rfl rfl
  refine ⟨_, _, .pointer (some ⟨c.w.heap.size, 0, none⟩), _, hk, ?_, hal.1, hal.2, rfl, ?_⟩
  · simp [Instr.box, newVar, newRow]
  · have hlt := (List.getElem?_eq_some_iff.1 hu).1
    have := Rep.optr (c := ⟨fun h => if h = hf then some c.w.heap.size else c.ρ h, c.I, c.rows.set hf (.live cs.length [cs]), c.w.alloc (.cells u.cells t)⟩) cs.length hf 1 0 0 c.w.heap.size [cs] (by simp [hlt]) rfl (by simp)
    simpa using this

theorem repL_zero {us : List Value} {zero : List D} (hz : us.length = zero.length) (hrep : ∀ (j : Nat) (v : D) (x : Value), zero[j]? = some v → us[j]? = some x → RepD (fun _ => False) default x v) :
    RepL c us (zero.map .d) := by
  refine ⟨by simpa using hz, fun j v x h1 h2 => ?_⟩
  simp only [List.getElem?_map] at h1
  obtain ⟨d, hd, rfl⟩ := Option.map_eq_some_iff.1 h1
  exact .d _ _ ((hrep j d x hd h2).mono (fun _ h => h.elim) (fun _ h => h.elim))

/-- The zero value of a type: its cells as data. -/
def ZeroOf (P : Program) (t : TypeId) (zero : List D) : Prop := ∃ i z, P.info? t = some i ∧ i.zero = some z ∧ i.size = zero.length ∧ z.cells.size = zero.length ∧
  ∀ (j : Nat) (v : D) (x : Value), zero[j]? = some v → z.cells[j]? = some x → RepD (fun _ => False) default x v

theorem map_d_one (zero : List D) : ∀ x ∈ zero.map V.d, oneV x = true := by
  intro x hx
  obtain ⟨d, _, rfl⟩ := List.mem_map.1 hx
  rfl

theorem res_alloc (ok : Ok c) {t : TypeId} {zero : List D} {ev : Opd → V} {hf : Nat} (hu : c.rows[hf]? = some .un) (hz : ZeroOf P t zero)
    (h : opW (.alloc zero) ev c.rows hf K) : Res c ((Instr.alloc t true (.tuple #[])).run P c.w) K := by
  simp only [opW] at h
  obtain ⟨i, z, hi, hz1, hsz, hcs, hrep⟩ := hz
  have hl : RepL c z.cells.toList (zero.map .d) := repL_zero (by simpa using hcs) (fun j v x h1 h2 => hrep j v x h1 (by simpa using h2))
  have hco := cont_one hl (map_d_one zero)
  simp only [List.length_map] at hco
  have hal := alloc_ok ok hf zero.length [zero.map .d] z.cells t (0, 0) (.inl hu) (fun i _ => by omega) (by simpa using hco) (c.w.alloc (.cells z.cells t)) rfl rfl rfl rfl
  refine ⟨_, _, .pointer (some ⟨c.w.heap.size, 0, none⟩), _, h, ?_, hal.1, hal.2, rfl, ?_⟩
  · simp [Instr.alloc, zeroValue, typeInfo, hi, hz1, newVar, newRow]
  · have hlt := (List.getElem?_eq_some_iff.1 hu).1
    have := Rep.optr (c := ⟨fun h => if h = hf then some c.w.heap.size else c.ρ h, c.I, c.rows.set hf (.live zero.length [zero.map .d]), c.w.alloc (.cells z.cells t)⟩) zero.length hf 1 0 0 c.w.heap.size [zero.map .d] (by simp [hlt]) rfl (by simp)
    simpa using this

/-- storeCells into a row, whatever its marks beyond the end. -/
theorem run_storeCells_fz (g o : Nat) (t : TypeId) (fz : Nat × Nat) : ∀ (vs : List Value) (i : Nat) (cur : Array Value) (w : World), w.heap[g]? = some (.cells cur t fz) →
    (∀ k, k < cur.size → ¬ (fz.1 ≤ k ∧ k < fz.2)) → o + i + vs.length ≤ cur.size → (∀ v ∈ vs, v.oneCell' = true) →
    (storeCells ⟨g, o, none⟩ vs i).run P w = .ok () (w.setRow g (cur.toList.take (o + i) ++ vs ++ cur.toList.drop (o + i + vs.length)).toArray)
  | [], i, cur, w, hg, _, _, _ => by
    simp only [storeCells, List.append_nil, List.length_nil, Nat.add_zero, List.take_append_drop, Array.toArray_toList]
    rw [setRow_self w g cur t fz hg]
    rfl
  | v :: rest, i, cur, w, hg, hfz, hl, h1 => by
    have hi : o + i < cur.size := by simp at hl; omega
    have hadd : (⟨g, o, none⟩ : Addr).add i = ⟨g, o + i, none⟩ := add_off _ _ _
    have hcell : w.cell? ⟨g, o + i, none⟩ = some cur[o + i] := by simp [World.cell?, hg, hi]
    have hfro : w.frozen? ⟨g, o + i, none⟩ = false := by
      have := hfz _ hi
      simp [World.frozen?, hg]
      omega
    have hst : (store ((⟨g, o, none⟩ : Addr).add i) v).run P w = .ok () (w.setRow g (cur.setIfInBounds (o + i) v)) := by
      rw [hadd, run_store P w _ v _ (h1 v (by simp)), hcell]
      simp [hfro, setCell_eq_setRow w g (o + i) cur t fz v hg]
    have ih := run_storeCells_fz g o t fz rest (i + 1) (cur.setIfInBounds (o + i) v) (w.setRow g (cur.setIfInBounds (o + i) v)) (setRow_heap w g cur _ t _ hg) (by simpa using hfz) (by simp at hl ⊢; omega) (fun x hx => h1 x (by simp [hx]))
    simp only [storeCells, Sem.run_bind, hst, Result.andThen_ok, ih, setRow_setRow]
    congr 3
    apply List.ext_getElem?
    intro k
    simp only [Array.toList_setIfInBounds, List.getElem?_append, List.getElem?_take, List.getElem?_drop, List.length_append, List.length_take, List.length_set, List.length_cons, Array.length_toList, List.getElem?_cons, List.getElem?_set]
    grind

end
end Go.Vx
