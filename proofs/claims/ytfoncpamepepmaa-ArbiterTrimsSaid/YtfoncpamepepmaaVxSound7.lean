import Derived.Test.YtfoncpamepepmaaVxSound6
set_option linter.unusedSimpArgs false
set_option linter.unusedVariables false
namespace Go.Vx
section
variable {P : Program} {c : Cx} {K : V → List (Nat × RowS) → Prop}

theorem mul_div_sz {m n sz : Nat} (h : m < n * sz) : m / sz < n ∧ m % sz < sz := by
  have hpos : 0 < sz := by rcases Nat.eq_zero_or_pos sz with h0 | h0 <;> simp_all
  exact ⟨(Nat.div_lt_iff_lt_mul hpos).2 h, Nat.mod_lt _ hpos⟩

theorem idx_div {i j sz : Nat} (h : j < sz) : (i * sz + j) / sz = i ∧ (i * sz + j) % sz = j := by
  have hpos : 0 < sz := by omega
  rw [Nat.mul_comm i sz]
  exact ⟨by rw [Nat.mul_add_div hpos, Nat.div_eq_of_lt h, Nat.add_zero], by rw [Nat.mul_add_mod, Nat.mod_eq_of_lt h]⟩

/-- What is read of a slice or string that is a source. -/
def Src (P : Program) (c : Cx) (sz : Nat) (u : Value) (es : List (List V)) (fl : List Value) : Prop :=
  fl.length = es.length * sz ∧ Cont c sz es fl.toArray ∧ (Builtin.lenOf u).run P c.w = .ok es.length c.w ∧
  ∀ w', (∀ b o, b < c.w.heap.size → w'.cell? ⟨b, o, none⟩ = c.w.cell? ⟨b, o, none⟩) → ∀ n, n ≤ es.length → (Builtin.firstCells sz n u).run P w' = .ok (fl.take (n * sz)).toArray w'

theorem cell_lt {w : World} {b o : Nat} {v : Value} (h : w.cell? ⟨b, o, none⟩ = some v) : b < w.heap.size := World.block_lt_of_cell? w _ h

theorem take_range_map {α : Type} (f : Nat → α) (m k : Nat) (h : k ≤ m) : ((List.range m).map f).take k = (List.range k).map f := by
  rw [← List.map_take, List.take_range, Nat.min_eq_left h]

theorem src_of (ok : Ok c) {sz : Nat} {u : Value} {v : V} {K' : List (List V) → Prop} (hr : Rep c u v) (h : elemsW c.rows sz v K') :
    ∃ es fl, K' es ∧ Src P c sz u es fl := by
  unfold elemsW at h
  split at h
  · have := rep_nils hr; subst this
    exact ⟨[], [], h, by simp, ⟨by simp, by simp, by simp⟩, by simp [Builtin.lenOf], fun w' _ n hn => by simp [Builtin.firstCells]⟩
  · rename_i s es
    obtain ⟨rfl, hk⟩ := h
    cases hr with | d _ _ hr =>
    refine ⟨es.map (·.map .d), ?_⟩
    generalize hes : es = es' at *
    cases hr with
    | slNil => subst hes; exact ⟨[], hk, by simp, ⟨by simp, by simp, by simp⟩, by simp [Builtin.lenOf], fun w' _ n hn => by simp [Builtin.firstCells]⟩
    | slEmp _ a cap =>
      subst hes
      refine ⟨[], hk, by simp, ⟨by simp, by simp, by simp⟩, by simp [Builtin.lenOf], fun w' _ n hn => ?_⟩
      have hn0 : n = 0 := by simpa using hn
      subst hn0
      simp [Builtin.firstCells, loadCells, loadCellsFrom]
    | sl _ _ b off cap uu hcap hI hsz hcell hrep =>
      have hel : ∀ m, m < es'.length * s → ∃ e v, es'[m / s]? = some e ∧ e[m % s]? = some v := fun m hm => by
        obtain ⟨h1, h2⟩ := mul_div_sz hm
        have h3 : es'[m / s]? = some (es'[m / s]'h1) := List.getElem?_eq_getElem h1
        have h4 := hsz _ (List.mem_of_getElem? h3)
        exact ⟨_, _, h3, List.getElem?_eq_getElem (by omega)⟩
      refine ⟨(List.range (es'.length * s)).map (fun m => uu (m / s) (m % s)), hk, by simp, ⟨?_, by simp, ?_⟩, by simp [Builtin.lenOf], ?_⟩
      · intro e he
        obtain ⟨e', he', rfl⟩ := List.mem_map.1 he
        exact ⟨by simpa using hsz e' he', map_d_one e'⟩
      · intro i e j v h1 h2
        simp only [List.getElem?_map] at h1
        obtain ⟨e', he', rfl⟩ := Option.map_eq_some_iff.1 h1
        simp only [List.getElem?_map] at h2
        obtain ⟨d, hd, rfl⟩ := Option.map_eq_some_iff.1 h2
        have hj : j < s := by have := (List.getElem?_eq_some_iff.1 hd).1; have := hsz _ (List.mem_of_getElem? he'); omega
        have hi : i < es'.length := (List.getElem?_eq_some_iff.1 he').1
        have hlt := mul_lt_of (sz := s) hi hj
        refine ⟨uu i j, ?_, .d _ _ (hrep i e' j d he' hd)⟩
        simp [hlt, (idx_div hj).1, (idx_div hj).2]
      · intro w' hw' n hn
        rw [List.length_map] at hn
        rw [take_range_map _ _ _ (Nat.mul_le_mul_right _ hn)]
        refine run_loadRow b off (n * s) _ (fun m hm => ?_)
        have hm' : m < es'.length * s := Nat.lt_of_lt_of_le hm (Nat.mul_le_mul_right _ hn)
        obtain ⟨e, v, h1, h2⟩ := hel m hm'
        have h3 := hcell _ _ _ _ h1 h2
        have h4 : m / s * s + m % s = m := by rw [Nat.mul_comm]; exact Nat.div_add_mod m s
        rw [h4] at h3
        rw [hw' _ _ (cell_lt h3), h3]
  · rename_i s
    obtain ⟨rfl, hk⟩ := h
    have := rep_str hr; subst this
    refine ⟨_, s.map fun b => .int .u8 b.toNat, hk, by simp, ⟨?_, by simp, ?_⟩, by simp [Builtin.lenOf, size_str], ?_⟩
    · intro e he
      obtain ⟨b, _, rfl⟩ := List.mem_map.1 he
      exact ⟨rfl, by simp [oneV]⟩
    · intro i e j v h1 h2
      simp only [List.getElem?_map] at h1
      obtain ⟨b, hb, rfl⟩ := Option.map_eq_some_iff.1 h1
      cases j with
      | zero => simp at h2; subst h2; exact ⟨.int .u8 b.toNat, by simp [hb], mk_int _ _⟩
      | succ j => simp at h2
    · intro w' _ n hn
      have : (⟨s.toArray⟩ : ByteArray).extract 0 n = ⟨(s.take n).toArray⟩ := by simpa using extract_str s 0 n
      simp [Builtin.firstCells, this]
  · rename_i s hh n off len
    obtain ⟨rfl, hlive, hk⟩ := h
    rcases rep_osl hr hlive with ⟨rfl, rfl, rfl, rfl, hρ⟩ | ⟨cap, b, o, arr, ty, fz, rfl, hρ, hb, ho, hcap, hlc, hlen⟩
    · obtain ⟨es, hrow, hn⟩ := hlive
      have hes : es = [] := List.eq_nil_of_length_eq_zero hn
      subst hes
      refine ⟨_, [], hk _ hrow, by simp, ⟨by simp, by simp, by simp⟩, by simp [Builtin.lenOf], fun w' _ n hn => ?_⟩
      simp [Builtin.firstCells]
    · obtain ⟨es, hrow, hn⟩ := hlive
      obtain ⟨arr', ty', fz', hb', hfz, hc⟩ := row_cells ok hrow hρ
      rw [hb] at hb'; injection hb' with hb'; injection hb' with e1 e2 e3; subst e1 e2 e3
      have hll : ((es.drop off).take len).length = len := by simp; omega
      have hfit : (off + len) * s ≤ arr.size := Nat.le_trans (Nat.mul_le_mul_right _ (by omega)) hc.2.1
      rw [Nat.add_mul] at hfit
      refine ⟨_, (List.range (len * s)).map (fun m => arr.getD (off * s + m) undef), hk _ hrow, by simp [hll], ⟨?_, by rw [hll]; simp, ?_⟩, by rw [hll]; simp [Builtin.lenOf], ?_⟩
      · intro e he
        exact hc.1 e (List.mem_of_mem_drop (List.mem_of_mem_take he))
      · intro i e j v h1 h2
        have hi : i < len := by have := (List.getElem?_eq_some_iff.1 h1).1; omega
        rw [List.getElem?_take, if_pos hi, List.getElem?_drop] at h1
        have hj : j < s := by have := (List.getElem?_eq_some_iff.1 h2).1; have := (hc.1 _ (List.mem_of_getElem? h1)).1; omega
        have hlt := mul_lt_of (sz := s) hi hj
        obtain ⟨x, hx, hxr⟩ := hc.2.2 _ _ _ _ h1 h2
        refine ⟨x, ?_, hxr⟩
        rw [Nat.add_mul, Nat.add_assoc] at hx
        simp [hlt, Array.getD_eq_getD_getElem?, hx]
      · intro w' hw' n hn
        rw [hll] at hn
        rw [take_range_map _ _ _ (Nat.mul_le_mul_right _ hn)]
        refine run_loadRow b o (n * s) _ (fun m hm => ?_)
        have hm' : m < len * s := Nat.lt_of_lt_of_le hm (Nat.mul_le_mul_right _ hn)
        have hcp : cap ≠ 0 := by
          intro h0
          have : len = 0 := by omega
          subst this
          simp at hm'
        rw [ho.resolve_right hcp, hw' _ _ (Array.getElem?_eq_some_iff.1 hb).1, cell_of hb]
        simp [Array.getD_eq_getD_getElem?, show off * s + m < arr.size by omega]
  · exact h.elim

theorem cont_cat {sz : Nat} {es xs : List (List V)} {A B : List Value} {rest : List Value} (hA : A.length = es.length * sz) (hB : B.length = xs.length * sz)
    (h1 : Cont c sz es A.toArray) (h2 : Cont c sz xs B.toArray) : Cont c sz (es ++ xs) (A ++ B ++ rest).toArray := by
  refine ⟨fun e he => ?_, by simp [hA, hB, Nat.add_mul], fun i e j v h3 h4 => ?_⟩
  · rcases List.mem_append.1 he with he | he
    · exact h1.1 e he
    · exact h2.1 e he
  · rw [List.getElem?_append] at h3
    split at h3
    · rename_i hi
      obtain ⟨x, hx, hr⟩ := h1.2.2 i e j v h3 h4
      have hj : j < sz := by have := (List.getElem?_eq_some_iff.1 h4).1; have := (h1.1 _ (List.mem_of_getElem? h3)).1; omega
      have hlt := mul_lt_of (sz := sz) hi hj
      refine ⟨x, ?_, hr⟩
      simp only [List.getElem?_toArray] at hx ⊢
      rw [List.append_assoc, List.getElem?_append_left (by omega)]
      exact hx
    · rename_i hi
      obtain ⟨x, hx, hr⟩ := h2.2.2 _ e j v h3 h4
      have hj : j < sz := by have := (List.getElem?_eq_some_iff.1 h4).1; have := (h2.1 _ (List.mem_of_getElem? h3)).1; omega
      have hi2 : i - es.length < xs.length := (List.getElem?_eq_some_iff.1 h3).1
      have hlt := mul_lt_of (sz := sz) hi2 hj
      refine ⟨x, ?_, hr⟩
      simp only [List.getElem?_toArray] at hx ⊢
      have hge : es.length * sz ≤ i * sz := Nat.mul_le_mul_right _ (by omega)
      have heq : i * sz + j - A.length = (i - es.length) * sz + j := by rw [hA, Nat.sub_mul]; omega
      rw [List.append_assoc, List.getElem?_append_right (by omega), heq, List.getElem?_append_left (by omega)]
      exact hx

theorem cont_take {sz : Nat} {es : List (List V)} {arr : Array Value} (h : Cont c sz es arr) (n : Nat) (hn : n ≤ es.length) : Cont c sz (es.take n) (arr.toList.take (n * sz)).toArray := by
  have hm : n * sz ≤ es.length * sz := Nat.mul_le_mul_right _ hn
  have h0 := h.2.1
  refine ⟨fun e he => h.1 e (List.mem_of_mem_take he), by simp; rw [Nat.min_eq_left hn]; omega, fun i e j v h1 h2 => ?_⟩
  rw [List.getElem?_take] at h1
  split at h1
  · rename_i hi
    obtain ⟨x, hx, hr⟩ := h.2.2 i e j v h1 h2
    have hj : j < sz := by have := (List.getElem?_eq_some_iff.1 h2).1; have := (h.1 _ (List.mem_of_getElem? h1)).1; omega
    have hlt := mul_lt_of (sz := sz) hi hj
    refine ⟨x, ?_, hr⟩
    simp only [List.getElem?_toArray, List.getElem?_take, if_pos hlt]
    simpa using hx
  · cases h1

theorem cont_drop {sz : Nat} {es : List (List V)} {arr : Array Value} (h : Cont c sz es arr) (n : Nat) (hn : n ≤ es.length) : Cont c sz (es.drop n) (arr.toList.drop (n * sz)).toArray := by
  have hm : n * sz ≤ es.length * sz := Nat.mul_le_mul_right _ hn
  have h0 := h.2.1
  refine ⟨fun e he => h.1 e (List.mem_of_mem_drop he), by simp [Nat.sub_mul]; omega, fun i e j v h1 h2 => ?_⟩
  rw [List.getElem?_drop] at h1
  obtain ⟨x, hx, hr⟩ := h.2.2 _ e j v h1 h2
  refine ⟨x, ?_, hr⟩
  simp only [List.getElem?_toArray, List.getElem?_drop]
  rw [← Nat.add_assoc, ← Nat.add_mul]
  simpa using hx

theorem set_same {rows : Rows} {h : Nat} {r : RowS} (hr : rows[h]? = some r) : rows.set h r = rows := by
  apply List.ext_getElem?
  intro k
  by_cases hk : h = k
  · subst hk
    obtain ⟨h1, h2⟩ := List.getElem?_eq_some_iff.1 hr
    simp [h1, h2]
  · rw [List.getElem?_set_ne hk]

theorem run_append_grow {t t' ty e : TypeId} {sz bytes len cap m : Nat} {base : Option Addr} {x : Value} {old news : List Value} {w : World} {d : TypeDesc} {zero : List D}
    (ht : P.underlying t = some (.slice e)) (ht' : P.underlying t' = some d) (hd : d = .string ∨ ∃ e', d = .slice e') (hi : ∃ i, P.info? e = some i ∧ i.size = sz ∧ i.bytes = bytes) (hz : ZeroOf P e zero) (hzl : zero.length = sz)
    (hb0 : bytes ≠ 0) (hlen : (Builtin.lenOf x).run P w = .ok m w) (hbytes : (len + m) * bytes ≤ maxBytes) (hgrow : cap < len + m)
    (hold : (Builtin.firstCells sz len (.slice base len cap)).run P w.drew = .ok old.toArray w.drew) (hnew : (Builtin.firstCells sz m x).run P w.drew = .ok news.toArray w.drew) :
    ∃ newCap zs w', (Builtin.append_ #[t, t'] ty #[.slice base len cap, x]).run P w = .ok (.slice (some ⟨w.heap.size, 0, none⟩) (len + m) newCap) w' ∧ w'.heap = w.heap.push (.cells (old ++ news ++ zs).toArray e (0, 0)) ∧
      w'.os = w.os ∧ w'.tape = w.tape ∧ w'.output = w.output ∧ len + m ≤ newCap ∧ zs.length = (newCap - (len + m)) * sz := by
  obtain ⟨i, hi, hs, hby⟩ := hi
  obtain ⟨i', z, hi', hz1, hz2, hz3, _⟩ := hz
  rw [hi] at hi'; injection hi' with hi'; subst hi'
  have hfit := growslice_fits (need := len + m) (old := cap) (bytes := bytes) hgrow hbytes
  have hforce : (Question.appendCap (len + m) cap e).forced = false := rfl
  refine ⟨(Question.appendCap (len + m) cap e).cut (w.tape w.drawn (.appendCap (len + m) cap e)), (Builtin.zeroCells z.cells ((Question.appendCap (len + m) cap e).cut (w.tape w.drawn (.appendCap (len + m) cap e)) - (len + m))).toList,
    w.drew.alloc (.cells (old ++ news ++ (Builtin.zeroCells z.cells ((Question.appendCap (len + m) cap e).cut (w.tape w.drawn (.appendCap (len + m) cap e)) - (len + m))).toList).toArray e), ?_, rfl, rfl, rfl, rfl, ?_, ?_⟩
  · have h1 : ¬ (len + m ≤ cap) := by omega
    have h2 : ¬ (281474976710656 < Builtin.nextslicecap (len + m) cap * bytes) := by omega
    rcases hd with rfl | ⟨e', rfl⟩
    · simp [Builtin.append_, run_underlying ht, run_underlying ht', sizeOf, typeInfo, hi, hs, hby, hlen, h1, h2, hb0, hold, hnew, zeroValue, hz1, newRow, hforce]
      congr 2; apply Array.ext'; simp
    · simp [Builtin.append_, run_underlying ht, run_underlying ht', sizeOf, typeInfo, hi, hs, hby, hlen, h1, h2, hb0, hold, hnew, zeroValue, hz1, newRow, hforce]
      congr 2; apply Array.ext'; simp
  · simp only [Question.cut]; omega
  · simp [Builtin.zeroCells, hz3, hzl]

end
end Go.Vx
