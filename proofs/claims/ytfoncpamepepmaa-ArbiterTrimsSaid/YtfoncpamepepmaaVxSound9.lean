import Derived.Test.YtfoncpamepepmaaVxSound8
set_option linter.unusedSimpArgs false
set_option linter.unusedVariables false
namespace Go.Vx
section
variable {P : Program} {c : Cx} {K : V → List (Nat × RowS) → Prop}

theorem foldl_set_get (off : Nat) : ∀ (l : List Value) (k : Nat) (cells : Array Value) (m : Nat),
    ((l.zipIdx k).foldl (fun (cs : Array Value) (x : Value × Nat) => cs.setIfInBounds (off + x.2) x.1) cells)[m]? =
      if off + k ≤ m ∧ m < off + k + l.length ∧ m < cells.size then l[m - (off + k)]? else cells[m]?
  | [], k, cells, m => by simp; intro h1 h2; omega
  | v :: l, k, cells, m => by
    simp only [List.zipIdx_cons, List.foldl_cons]
    rw [foldl_set_get off l (k + 1)]
    simp only [Array.size_setIfInBounds, List.length_cons]
    by_cases h1 : m = off + k
    · subst h1
      rw [if_neg (by omega)]
      by_cases h2 : off + k < cells.size
      · rw [if_pos (by omega)]; simp [h2]
      · rw [if_neg (by omega)]; simp [h2]
    · by_cases h2 : off + (k + 1) ≤ m ∧ m < off + (k + 1) + l.length ∧ m < cells.size
      · rw [if_pos h2, if_pos (by omega), show m - (off + k) = (m - (off + (k + 1))) + 1 by omega]
        rfl
      · rw [if_neg h2, if_neg (by omega)]
        rw [Array.getElem?_setIfInBounds_ne (by omega)]

theorem foldl_set_arr (off : Nat) (v : Value) (cells : Array Value) :
    v.cells.zipIdx.foldl (fun cs (x : Value × Nat) => cs.setIfInBounds (off + x.2) x.1) cells =
      (v.cells.toList.zipIdx).foldl (fun (cs : Array Value) (x : Value × Nat) => cs.setIfInBounds (off + x.2) x.1) cells := by
  rw [← Array.foldl_toList, Array.toList_zipIdx]

theorem foldl_set_size (off : Nat) : ∀ (l : List Value) (k : Nat) (cells : Array Value),
    ((l.zipIdx k).foldl (fun (cs : Array Value) (x : Value × Nat) => cs.setIfInBounds (off + x.2) x.1) cells).size = cells.size
  | [], k, cells => rfl
  | v :: l, k, cells => by simp only [List.zipIdx_cons, List.foldl_cons]; rw [foldl_set_size]; simp

/-- One part laid over the cells. -/
theorem repL_setR {cells : Array Value} {vs : List V} (h : RepL c cells.toList vs) {off : Nat} {us : List Value} {cs : List V} (hl : RepL c us cs) (hfit : off + cs.length ≤ vs.length) :
    RepL c ((us.zipIdx).foldl (fun (a : Array Value) (x : Value × Nat) => a.setIfInBounds (off + x.2) x.1) cells).toList (setR vs off cs) := by
  have hlen : (setR vs off cs).length = vs.length := splice_len vs cs off hfit
  have hcs : cells.size = vs.length := by have := h.1; simpa using this
  refine ⟨by rw [hlen, Array.length_toList, foldl_set_size, hcs], fun j v x h1 h2 => ?_⟩
  rw [Array.getElem?_toList, foldl_set_get] at h2
  simp only [setR] at h1
  rw [splice_get vs cs off j hfit] at h1
  simp only [Nat.add_zero, hl.1, hcs] at h2
  by_cases h3 : j < off
  · rw [if_pos h3] at h1
    rw [if_neg (by omega)] at h2
    exact h.2 j v x h1 (by simpa using h2)
  · rw [if_neg h3] at h1
    by_cases h4 : j < off + cs.length
    · rw [if_pos h4] at h1
      rw [if_pos (by omega)] at h2
      exact hl.2 _ v x h1 h2
    · rw [if_neg h4] at h1
      rw [if_neg (by omega)] at h2
      exact h.2 j v x h1 (by simpa using h2)

theorem fill_parts {ev : Opd → V} {place : Nat → Option (Nat × Nat)} : ∀ (ps : List (Nat × Nat × Opd)) (ps' : List (Nat × Value)) (cells : Array Value) (vs : List V) (K' : List V → Prop),
    RepL c cells.toList vs → ps.length = ps'.length → (∀ (k : Nat) (p : Nat × Nat × Opd) (p' : Nat × Value), ps[k]? = some p → ps'[k]? = some p' → place p'.1 = some (p.1, p.2.1) ∧ Rep c p'.2 (ev p.2.2)) →
    partsW ev ps vs K' → ∃ cells' vs', Instr.fill place cells ps' = some cells' ∧ RepL c cells'.toList vs' ∧ K' vs'
  | [], ps', cells, vs, K', h, hl, _, hk => by
    have : ps' = [] := List.eq_nil_of_length_eq_zero (by simpa using hl.symm)
    subst this
    exact ⟨cells, vs, rfl, h, hk⟩
  | (off, sz, x) :: ps, ps', cells, vs, K', h, hl, hp, hk => by
    cases ps' with
    | nil => simp at hl
    | cons p' ps' =>
      obtain ⟨i, u⟩ := p'
      obtain ⟨hpl, hr⟩ := hp 0 _ _ rfl rfl
      simp only at hpl hr
      obtain ⟨hfit, hk⟩ := hk
      obtain ⟨cs, hcl, ho, hrl, hk⟩ := cells_of hr hk
      have hcs : cells.size = vs.length := by have := h.1; simpa using this
      have hus : u.cells.size = sz := by have := hrl.1; simp at this; omega
      obtain ⟨cells', vs', e1, e2, e3⟩ := fill_parts ps ps' _ _ K' (repL_setR h hrl (by omega)) (by simpa using hl) (fun k p p' h1 h2 => hp (k + 1) p p' (by simpa using h1) (by simpa using h2)) hk
      refine ⟨cells', vs', ?_, e2, e3⟩
      simp only [Instr.fill, hpl]
      have hcond : ¬ ((decide (u.cells.size ≠ sz) || decide (off + u.cells.size > cells.size)) = true) := by simp; omega
      rw [if_neg hcond, foldl_set_arr]
      exact e1

theorem run_places {w : World} (f : Field → Nat) : ∀ (l : List Field), (∀ x ∈ l, SzOf P x.type (f x)) →
    (l.mapM fun x => (do pure (x.offset, ← sizeOf x.type) : Sem (Nat × Nat))).run P w = .ok (l.map fun x => (x.offset, f x)) w
  | [], _ => rfl
  | x :: l, h => by
    have h1 := run_sizeOf' (h x (by simp)) w
    have ih := run_places (w := w) f l (fun y hy => h y (by simp [hy]))
    simp only [bind_pure_comp] at ih
    simp [List.mapM_cons, h1, ih]

theorem res_build (ok : Ok c) {t : TypeId} {zero : List D} {ps : List (Nat × Nat × Opd)} {ps' : Array (Nat × Value)} {ev : Opd → V} {hf : Nat} {fs : Array Field} {f : Field → Nat} (ht : P.underlying t = some (.struct fs)) (hz : ZeroOf P t zero)
    (hfs : ∀ x ∈ fs.toList, SzOf P x.type (f x)) (hlen : ps.length = ps'.size)
    (hp : ∀ (k : Nat) (p : Nat × Nat × Opd) (p' : Nat × Value), ps[k]? = some p → ps'[k]? = some p' → (∃ x, fs[p'.1]? = some x ∧ p.1 = x.offset ∧ p.2.1 = f x) ∧ Rep c p'.2 (ev p.2.2)) (h : opW (.build zero ps) ev c.rows hf K) :
    Res c ((Instr.build t ps').run P c.w) K := by
  simp only [opW] at h
  obtain ⟨i, z, hi, hz1, hz2, hz3, hz4⟩ := hz
  have h0 : RepL c z.cells.toList (zero.map .d) := repL_zero (by simpa using hz3) (fun j v x h1 h2 => hz4 j v x h1 (by simpa using h2))
  obtain ⟨cells', vs', e1, e2, e3⟩ := fill_parts (place := fun k => (fs.map fun x => (x.offset, f x))[k]?) ps ps'.toList z.cells _ _ h0 (by simpa using hlen) (fun k p p' h1 h2 => by
    obtain ⟨⟨x, hx, h3, h4⟩, h5⟩ := hp k p p' h1 (by simpa using h2)
    exact ⟨by simp [hx, h3, h4], h5⟩) h
  refine Res.same ok e3 (u := .agg cells') ?_ (.agg _ _ (by simpa using e2.1) (fun j v x h1 h2 => e2.2 j v x h1 (by simpa using h2)))
  have hm : (fs.mapM fun x => (do pure (x.offset, ← sizeOf x.type) : Sem (Nat × Nat))).run P c.w = .ok (fs.map fun x => (x.offset, f x)) c.w := by
    rw [Array.mapM_eq_mapM_toList]
    have := run_places (P := P) (w := c.w) f fs.toList hfs
    simp only [bind_pure_comp] at this
    simp [this]
    apply Array.ext'
    simp
  simp only [bind_pure_comp] at hm
  simp only [Array.getElem?_map] at e1
  simp [Instr.build, zeroValue, typeInfo, hi, hz1, run_underlying ht, hm, e1]

theorem res_buildA (ok : Ok c) {t e : TypeId} {n sz : Nat} {zero : List D} {ps : List (Nat × Nat × Opd)} {ps' : Array (Nat × Value)} {ev : Opd → V} {hf : Nat} (ht : P.underlying t = some (.array n e)) (hz : ZeroOf P t zero)
    (hs : SzOf P e sz) (hlen : ps.length = ps'.size)
    (hp : ∀ (k : Nat) (p : Nat × Nat × Opd) (p' : Nat × Value), ps[k]? = some p → ps'[k]? = some p' → (p.1 = p'.1 * sz ∧ p.2.1 = sz) ∧ Rep c p'.2 (ev p.2.2)) (h : opW (.build zero ps) ev c.rows hf K) :
    Res c ((Instr.build t ps').run P c.w) K := by
  simp only [opW] at h
  obtain ⟨i, z, hi, hz1, hz2, hz3, hz4⟩ := hz
  have h0 : RepL c z.cells.toList (zero.map .d) := repL_zero (by simpa using hz3) (fun j v x h1 h2 => hz4 j v x h1 (by simpa using h2))
  obtain ⟨cells', vs', e1, e2, e3⟩ := fill_parts (place := fun k => some (k * sz, sz)) ps ps'.toList z.cells _ _ h0 (by simpa using hlen) (fun k p p' h1 h2 => by
    obtain ⟨⟨h3, h4⟩, h5⟩ := hp k p p' h1 (by simpa using h2)
    exact ⟨by simp [h3, h4], h5⟩) h
  refine Res.same ok e3 (u := .agg cells') ?_ (.agg _ _ (by simpa using e2.1) (fun j v x h1 h2 => e2.2 j v x h1 (by simpa using h2)))
  simp [Instr.build, zeroValue, typeInfo, hi, hz1, run_underlying ht, run_sizeOf' hs, e1]

/-- The cells of n zero elements. -/
def zcells (z : Array Value) (n : Nat) : Array Value := (Array.range n).map (z[· % z.size]!)

theorem cont_zero {z : Array Value} {zero : List D} {sz n : Nat} (hzl : zero.length = sz) (hz3 : z.size = sz) (hs0 : sz ≠ 0)
    (hz4 : ∀ (j : Nat) (v : D) (x : Value), zero[j]? = some v → z[j]? = some x → RepD (fun _ => False) default x v) (m : Nat) (hm : n * sz ≤ m) :
    Cont c sz (List.replicate n (zero.map .d)) (zcells z m) := by
  refine ⟨fun e he => ?_, by simp [zcells]; exact hm, fun i e j v h1 h2 => ?_⟩
  · obtain ⟨_, rfl⟩ := List.mem_replicate.1 he
    exact ⟨by simpa using hzl, map_d_one zero⟩
  · rw [List.getElem?_replicate] at h1
    split at h1
    · rename_i hi
      injection h1 with h1; subst h1
      simp only [List.getElem?_map] at h2
      obtain ⟨d, hd, rfl⟩ := Option.map_eq_some_iff.1 h2
      have hj : j < sz := by have := (List.getElem?_eq_some_iff.1 hd).1; omega
      have hlt := mul_lt_of (sz := sz) hi hj
      have hx : z[j]? = some (z[j]'(by omega)) := Array.getElem?_eq_getElem _
      refine ⟨z[j]'(by omega), ?_, .d _ _ ((hz4 j d _ hd hx).mono (fun _ h => h.elim) (fun _ h => h.elim))⟩
      simp only [zcells, Array.getElem?_map]
      rw [Array.getElem?_eq_getElem (by simp; omega)]
      simp only [Array.getElem_range, hz3, (idx_div hj).2, Option.map_some]
      rw [getElem!_pos z j (by omega)]
    · cases h1

theorem fill_sl {ev : Opd → V} {sz : Nat} : ∀ (ps : List (Nat × Opd)) (ps' : List (Nat × Value)) (cells : Array Value) (es : List (List V)) (K' : List (List V) → Prop),
    cells.size = es.length * sz → Cont c sz es cells → ps.length = ps'.length → (∀ (k : Nat) (p : Nat × Opd) (p' : Nat × Value), ps[k]? = some p → ps'[k]? = some p' → p'.1 = p.1 ∧ Rep c p'.2 (ev p.2)) →
    partsSl ev sz ps es K' → ∃ cells' es', Instr.fill (fun i => some (i * sz, sz)) cells ps' = some cells' ∧ cells'.size = es'.length * sz ∧ es'.length = es.length ∧ Cont c sz es' cells' ∧ K' es'
  | [], ps', cells, es, K', hsz, h, hl, _, hk => by
    have : ps' = [] := List.eq_nil_of_length_eq_zero (by simpa using hl.symm)
    subst this
    exact ⟨cells, es, rfl, hsz, rfl, h, hk⟩
  | (i, x) :: ps, ps', cells, es, K', hsz, h, hl, hp, hk => by
    cases ps' with
    | nil => simp at hl
    | cons p' ps' =>
      obtain ⟨i', u⟩ := p'
      obtain ⟨hpl, hr⟩ := hp 0 _ _ rfl rfl
      simp only at hpl hr
      subst hpl
      obtain ⟨hi, hk⟩ := hk
      obtain ⟨cs, hcl, ho, hrl, hk⟩ := cells_of hr hk
      have he : es[i']? = some (es[i']'hi) := List.getElem?_eq_getElem hi
      have hel := (h.1 _ (List.mem_of_getElem? he)).1
      have hus : u.cells.size = sz := by have := hrl.1; simp at this; omega
      have hfit : i' * sz + sz ≤ cells.size := by
        have h2 : (i' + 1) * sz ≤ es.length * sz := Nat.mul_le_mul_right _ hi
        rw [Nat.succ_mul] at h2
        omega
      have hco := cont_set h he (off := 0) (by omega) hrl ho
      have hsr : setR (es[i']'hi) 0 cs = cs := by simp [setR]; omega
      rw [hsr] at hco
      have harr : ((u.cells.toList.zipIdx).foldl (fun (a : Array Value) (x : Value × Nat) => a.setIfInBounds (i' * sz + x.2) x.1) cells) =
          (cells.toList.take (i' * sz + 0) ++ u.cells.toList ++ cells.toList.drop (i' * sz + 0 + u.cells.toList.length)).toArray := by
        apply Array.ext_getElem?
        intro m
        have hml : u.cells.toList.length = sz := by simpa using hus
        rw [foldl_set_get, List.getElem?_toArray (xs := _ ++ _), splice_get _ _ _ _ (by rw [hml]; simpa using hfit), hml]
        by_cases h3 : m < i' * sz
        · rw [if_neg (by omega), if_pos (by omega)]; simp
        · by_cases h4 : m < i' * sz + sz
          · rw [if_pos (by omega), if_neg (by omega), if_pos (by omega)]
          · rw [if_neg (by omega), if_neg (by omega), if_neg (by omega)]; simp
      rw [← harr] at hco
      obtain ⟨cells', es', e1, e2, e3, e4, e5⟩ := fill_sl ps ps' _ _ K' (by rw [foldl_set_size, hsz, List.length_set]) hco (by simpa using hl) (fun k p p' h1 h2 => hp (k + 1) p p' (by simpa using h1) (by simpa using h2)) hk
      refine ⟨cells', es', ?_, e2, by simpa using e3, e4, e5⟩
      simp only [Instr.fill]
      have hcond : ¬ ((decide (u.cells.size ≠ sz) || decide (i' * sz + u.cells.size > cells.size)) = true) := by simp; omega
      rw [if_neg hcond, foldl_set_arr]
      exact e1

theorem res_buildSl (ok : Ok c) {t e : TypeId} {sz len : Nat} {zero : List D} {ps : List (Nat × Opd)} {ps' : Array (Nat × Value)} {ev : Opd → V} {hf : Nat} (hu : c.rows[hf]? = some .un) (ht : P.underlying t = some (.slice e)) (hz : ZeroOf P e zero)
    (hzl : zero.length = sz) (hs0 : sz ≠ 0) (hmax : len * sz ≤ 16777216) (hlen : ps.length = ps'.size)
    (hp : ∀ (k : Nat) (p : Nat × Opd) (p' : Nat × Value), ps[k]? = some p → ps'[k]? = some p' → p'.1 = p.1 ∧ Rep c p'.2 (ev p.2)) (h : opW (.buildSl sz len zero ps) ev c.rows hf K) :
    Res c ((Instr.buildSlice t len ps').run P c.w) K := by
  simp only [opW] at h
  obtain ⟨i, z, hi, hz1, hz2, hz3, hz4⟩ := hz
  have hlt : hf < c.rows.length := (List.getElem?_eq_some_iff.1 hu).1
  have h0 := cont_zero (c := c) (n := len) hzl (by omega) hs0 hz4 (len * sz) (Nat.le_refl _)
  obtain ⟨cells', es', e1, e2, e3, e4, e5⟩ := fill_sl ps ps'.toList (zcells z.cells (len * sz)) _ _ (by simp [zcells]) h0 (by simpa using hlen) (fun k p p' h1 h2 => hp k p p' h1 (by simpa using h2)) h
  simp only [List.length_replicate] at e3
  have hal := alloc_ok ok hf sz es' cells' e (0, 0) (.inl hu) (fun i _ => by simp) e4 (c.w.alloc (.cells cells' e)) rfl rfl rfl rfl
  refine ⟨_, _, .slice (some ⟨c.w.heap.size, 0, none⟩) len len, _, e5, ?_, hal.1, hal.2, rfl, ?_⟩
  · have hsz : (sizeOf e).run P c.w = .ok sz c.w := run_sizeOf' ⟨i, hi, by omega⟩ _
    have h1 : ¬ (16777216 < len * sz) := by omega
    have hcells : (Array.range (len * sz)).map (fun x => z.cells[x % z.cells.size]!) = zcells z.cells (len * sz) := rfl
    by_cases hl0 : len * sz = 0
    · have : zcells z.cells (len * sz) = #[] := by rw [hl0]; simp [zcells, Array.range_zero']
      rw [this] at e1
      simp [Instr.buildSlice, run_underlying ht, hsz, hl0, e1, newRow, Array.range_zero']
    · simp [Instr.buildSlice, run_underlying ht, hsz, h1, hl0, zeroValue, typeInfo, hi, hz1, hcells, e1, newRow]
  · refine .osl _ _ _ _ _ len c.w.heap.size 0 es' cells' e (0, 0) (by simp [hlt]) e3 (by simp) (push_new rfl) (.inl (by simp)) (by rw [e2, e3]; simp) (Nat.le_refl _) (by omega)

theorem res_mksl (ok : Ok c) {t e : TypeId} {sz bytes : Nat} {zero : List D} {l k : Opd} {ev : Opd → V} {hf : Nat} {ul uk : Value} (hu : c.rows[hf]? = some .un) (ht : P.underlying t = some (.slice e)) (hz : ZeroOf P e zero)
    (hb : ∃ i, P.info? e = some i ∧ i.bytes = bytes) (hzl : zero.length = sz) (hs0 : sz ≠ 0) (hl : Rep c ul (ev l)) (hk : Rep c uk (ev k)) (h : opW (.mksl sz bytes zero l k) ev c.rows hf K) :
    Res c ((Instr.makeSlice t ul uk).run P c.w) K := by
  simp only [opW] at h
  obtain ⟨k1, n, rfl, h1⟩ := int_of hl h
  obtain ⟨k2, m, rfl, h2⟩ := int_of hk h1
  obtain ⟨h3, h4, h5, h6, hK⟩ := h2
  obtain ⟨i, z, hi, hz1, hz2, hz3, hz4⟩ := hz
  obtain ⟨i', hi', hbb⟩ := hb
  rw [hi] at hi'; injection hi' with hi'; subst hi'
  have hlt : hf < c.rows.length := (List.getElem?_eq_some_iff.1 hu).1
  have hrun := run_make (P := P) c.w t e i z ht hi hz1 k1 k2 n m h3 h4 (by rw [hbb]; exact h6) h5
  have hsz : i.size = sz := by omega
  have h0 := cont_zero (c := c) (n := n.toNat) hzl (by omega) hs0 hz4 (m.toNat * sz) (Nat.mul_le_mul_right _ (by omega))
  have hal := alloc_ok ok hf sz _ (zcells z.cells (m.toNat * sz)) e (0, 0) (.inl hu) (fun i _ => by simp) h0 (c.w.alloc (.cells (zcells z.cells (m.toNat * sz)) e)) rfl rfl rfl rfl
  refine ⟨_, _, .slice (some ⟨c.w.heap.size, 0, none⟩) n.toNat m.toNat, _, hK, ?_, hal.1, hal.2, rfl, ?_⟩
  · rw [hrun, hsz]; rfl
  · refine .osl _ _ _ _ _ m.toNat c.w.heap.size 0 (List.replicate n.toNat (zero.map .d)) (zcells z.cells (m.toNat * sz)) e (0, 0) (by simp [hlt]) (by simp) (by simp) (push_new rfl) (.inl (by simp)) (by simp [zcells]) (by omega) (by omega)

end
end Go.Vx
