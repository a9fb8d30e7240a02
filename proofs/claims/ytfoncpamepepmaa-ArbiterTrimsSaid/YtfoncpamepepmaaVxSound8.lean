import Derived.Test.YtfoncpamepepmaaVxSound7
set_option linter.unusedSimpArgs false
set_option linter.unusedVariables false
namespace Go.Vx
section
variable {P : Program} {c : Cx} {K : V → List (Nat × RowS) → Prop}

theorem setRows_one (rows : Rows) (h : Nat) (r : RowS) : setRows rows [(h, r)] = rows.set h r := rfl

theorem drew_src {sz : Nat} {u : Value} {es : List (List V)} {fl : List Value} (h : Src P c sz u es fl) (n : Nat) (hn : n ≤ es.length) :
    (Builtin.firstCells sz n u).run P c.w.drew = .ok (fl.take (n * sz)).toArray c.w.drew := h.2.2.2 c.w.drew (fun _ _ _ => rfl) n hn

theorem one_of_cont {sz : Nat} {es : List (List V)} {fl : List Value} (hl : fl.length = es.length * sz) (h : Cont c sz es fl.toArray) : ∀ v ∈ fl, v.oneCell' = true := by
  intro v hv
  obtain ⟨m, hm, rfl⟩ := List.getElem_of_mem hv
  rw [hl] at hm
  obtain ⟨h1, h2⟩ := mul_div_sz hm
  have h3 : es[m / sz]? = some (es[m / sz]'h1) := List.getElem?_eq_getElem h1
  obtain ⟨h4, h5⟩ := h.1 _ (List.mem_of_getElem? h3)
  have h6 : (es[m / sz]'h1)[m % sz]? = some ((es[m / sz]'h1)[m % sz]'(by omega)) := List.getElem?_eq_getElem _
  obtain ⟨x, hx, hr⟩ := h.2.2 _ _ _ _ h3 h6
  have h7 : m / sz * sz + m % sz = m := by rw [Nat.mul_comm]; exact Nat.div_add_mod m sz
  rw [h7] at hx
  simp only [List.getElem?_toArray] at hx
  have := (List.getElem?_eq_some_iff.1 hx).2
  rw [this]
  exact hr.one (h5 _ (List.mem_of_getElem? h6))

theorem res_append (ok : Ok c) {t t' ty e : TypeId} {sz bytes : Nat} {s x : Opd} {ev : Opd → V} {hf : Nat} {us ux : Value} {d : TypeDesc} {zero : List D} (hu : c.rows[hf]? = some .un)
    (ht : P.underlying t = some (.slice e)) (ht' : P.underlying t' = some d) (hd : d = .string ∨ ∃ e', d = .slice e') (hi : ∃ i, P.info? e = some i ∧ i.size = sz ∧ i.bytes = bytes) (hz : ZeroOf P e zero) (hzl : zero.length = sz)
    (hb0 : bytes ≠ 0) (hs0 : sz ≠ 0) (hrs : Rep c us (ev s)) (hrx : Rep c ux (ev x)) (h : opW (.append sz bytes s x) ev c.rows hf K) :
    Res c ((Builtin.append_ #[t, t'] ty #[us, ux]).run P c.w) K := by
  simp only [opW] at h
  obtain ⟨xs, fl, h, hsrc⟩ := src_of (P := P) ok hrx h
  have hlt : hf < c.rows.length := (List.getElem?_eq_some_iff.1 hu).1
  have hflen := hsrc.1
  have hfull : fl.take (xs.length * sz) = fl := List.take_of_length_le (by omega)
  have hnew := drew_src hsrc xs.length (Nat.le_refl _)
  rw [hfull] at hnew
  have hnew0 := hsrc.2.2.2 c.w (fun _ _ _ => rfl) xs.length (Nat.le_refl _)
  rw [hfull] at hnew0
  have hfits : ∀ (base : Option Addr) (len cap : Nat), len + xs.length ≤ cap →
      (Builtin.append_ #[t, t'] ty #[.slice base len cap, ux]).run P c.w =
        ((match base with | some a => storeCells (a.add (len * sz)) fl | none => pure ()).run P c.w).andThen fun _ w' => .ok (.slice base (len + xs.length) cap) w' := by
    intro base len cap hle
    obtain ⟨i, hi, hs, hby⟩ := hi
    rcases hd with rfl | ⟨e', rfl⟩ <;> cases base <;>
      simp [Builtin.append_, run_underlying ht, run_underlying ht', sizeOf, typeInfo, hi, hs, hsrc.2.2.1, hle, hnew0]
  -- a fresh block for the handle g
  have fresh : ∀ (g : Nat) (base : Option Addr) (len cap : Nat) (es : List (List V)) (old : List Value), cap < len + xs.length → (len + xs.length) * bytes ≤ maxBytes →
      (c.rows[g]? = some .un ∨ ∃ es0, c.rows[g]? = some (.live sz es0) ∧ es0.length < (es ++ xs).length) →
      es.length = len → old.length = es.length * sz → Cont c sz es old.toArray → (Builtin.firstCells sz len (.slice base len cap)).run P c.w.drew = .ok old.toArray c.w.drew →
      K (.osl sz g (len + xs.length) 0 (len + xs.length)) [(g, .live sz (es ++ xs))] → Res c ((Builtin.append_ #[t, t'] ty #[.slice base len cap, ux]).run P c.w) K := by
    intro g base len cap es old hgrow hby hg hel hol hco hold hk
    obtain ⟨newCap, zs, w', hrun, hheap, h1, h2, h3, h4, h5⟩ := run_append_grow (base := base) (ty := ty) (cap := cap) (news := fl) ht ht' hd hi hz hzl hb0 hsrc.2.2.1 hby hgrow hold hnew
    have hc2 := cont_cat (rest := zs) hol hflen hco hsrc.2.1
    have hal := alloc_ok ok g sz (es ++ xs) (old ++ fl ++ zs).toArray e (0, 0) hg (fun i _ => by simp) hc2 w' hheap h1 h2 h3
    have hglt : g < c.rows.length := by rcases hg with hg | ⟨_, hg, _⟩ <;> exact (List.getElem?_eq_some_iff.1 hg).1
    refine ⟨_, _, _, _, hk, hrun, hal.1, hal.2, rfl, ?_⟩
    refine .osl _ _ _ _ _ newCap c.w.heap.size 0 (es ++ xs) (old ++ fl ++ zs).toArray e (0, 0) (by simp [hglt]) (by simp [hel]) (by simp) (by rw [hheap]; simp) (.inl (by simp)) ?_ h4 (by omega)
    simp only [Nat.zero_add, List.size_toArray, List.length_append, hol, hflen, h5, hel]
    rw [← Nat.add_mul, ← Nat.add_mul, Nat.add_sub_cancel' h4]
    exact Nat.le_refl _
  split at h
  · rename_i e1; rw [e1] at hrs
    have := rep_nils hrs; subst this
    obtain ⟨hby, hk⟩ := h
    by_cases hx0 : xs = []
    · subst hx0
      have hv := virt_ok ok hf sz hu
      refine ⟨_, _, .slice none 0 0, _, hk, ?_, hv.1, hv.2, rfl, ?_⟩
      · rw [hfits none 0 0 (by simp)]; simp
      · exact .oslVirt _ _ (by simp [hlt]) (ok.rho_none (by simp [hu]))
    · have hpos : 0 < xs.length := List.length_pos_iff.2 hx0
      exact fresh hf none 0 0 [] [] (by omega) (by simpa using hby) (.inl hu) rfl (by simp) ⟨by simp, by simp, by simp⟩ (by simp [Builtin.firstCells]) (by simpa using hk)
  · rename_i s' g n off len e1; rw [e1] at hrs
    obtain ⟨rfl, rfl, rfl, hlive, hby, hk⟩ := h
    rcases rep_osl hrs hlive with ⟨rfl, rfl, -, -, hρ⟩ | ⟨cap, b, o, arr, ty', fz, rfl, hρ, hb, ho, hcap, hlc, hlen⟩
    · obtain ⟨es, hrow, hn⟩ := hlive
      have hes : es = [] := List.eq_nil_of_length_eq_zero hn
      subst hes
      by_cases hx0 : xs = []
      · subst hx0
        refine ⟨_, _, .slice none 0 0, c, hk _ hrow, ?_, ok, .refl c, ?_, ?_⟩
        · rw [hfits none 0 0 (by simp)]; simp
        · simp [setRows_one, set_same hrow]
        · exact .oslVirt _ _ hrow hρ
      · have hpos : 0 < xs.length := List.length_pos_iff.2 hx0
        exact fresh g none 0 0 [] [] (by omega) (by simpa using hby) (.inr ⟨[], hrow, by simpa using hpos⟩) rfl (by simp) ⟨by simp, by simp, by simp⟩ (by simp [Builtin.firstCells]) (by simpa using hk _ hrow)
    · obtain ⟨es, hrow, hn⟩ := hlive
      obtain ⟨arr', ty2, fz', hb', hfz, hc⟩ := row_cells ok hrow hρ
      rw [hb] at hb'; injection hb' with hb'; injection hb' with e1 e2 e3; subst e1 e2 e3
      have hk := hk _ hrow
      simp only [Nat.zero_add] at hcap
      by_cases hle : len + xs.length ≤ cap
      · have hone := one_of_cont hflen hsrc.2.1
        have hcz : cap ≠ 0 ∨ (len = 0 ∧ xs = []) := by
          by_cases h0 : cap = 0
          · exact .inr ⟨by omega, List.eq_nil_of_length_eq_zero (by omega)⟩
          · exact .inl h0
        have hfit2 : len * s' + fl.length ≤ arr.size := by
          have : (len + xs.length) * s' ≤ cap * s' := Nat.mul_le_mul_right _ hle
          rw [Nat.add_mul] at this
          omega
        have hes : es.length = len := hn
        have hco : Cont c s' (es ++ xs) (arr.toList.take (len * s') ++ fl ++ arr.toList.drop (len * s' + fl.length)).toArray := by
          refine cont_cat ?_ hflen ?_ hsrc.2.1
          · have hh := hc.2.1
            rw [hes] at hh ⊢
            rw [List.length_take, Nat.min_eq_left (by simpa using hh)]
          · have := cont_take hc es.length (Nat.le_refl _)
            rw [List.take_length, hes] at this
            exact this
        have hup := upd_ok ok g b s' es (es ++ xs) arr _ ty' fz hrow hρ hb hfz (by simp; omega) (by simp) hco
        rcases hcz with hcz | ⟨rfl, rfl⟩
        · have ho' := ho.resolve_right hcz
          simp only [Nat.zero_mul] at ho'
          subst ho'
          have hst := run_storeCells_fz (P := P) b (len * s') ty' fz fl 0 arr c.w hb hfz (by omega) hone
          simp only [Nat.add_zero] at hst
          refine ⟨_, _, .slice (some ⟨b, 0, none⟩) (len + xs.length) cap, _, hk, ?_, hup.1, hup.2, rfl, ?_⟩
          · rw [hfits _ _ _ hle]
            simp [add_off, hst]
          · have hglt : g < c.rows.length := (List.getElem?_eq_some_iff.1 hrow).1
            refine .osl _ _ _ _ _ cap b 0 (es ++ xs) _ ty' fz (by simp [hglt]) (by simp [hes]) hρ (setRow_heap _ _ _ _ _ _ hb) (.inl (by simp)) ?_ hle (by omega)
            simp only [Nat.zero_add, List.size_toArray]
            rw [splice_len _ _ _ (by simpa using hfit2)]
            simpa using hcap
        · simp only [List.append_nil] at hk
          have hfl : fl = [] := List.eq_nil_of_length_eq_zero (by simpa using hflen)
          subst hfl
          refine ⟨_, _, .slice (some ⟨b, o, none⟩) 0 cap, c, hk, ?_, ok, .refl c, ?_, ?_⟩
          · rw [hfits _ _ _ hle]
            simp [storeCells]
          · simp [setRows_one, set_same hrow]
          · exact .osl _ _ _ _ _ cap b o es arr ty' fz hrow hn hρ hb ho (by simpa using hcap) hlc hlen
      · have hcl : len ≤ cap := hlc
        have hes : es.length = len := hn
        refine fresh g (some ⟨b, o, none⟩) len cap es (arr.toList.take (len * s')) (by omega) hby (.inr ⟨es, hrow, by simp; omega⟩) hes ?_ ?_ ?_ hk
        · have hh := hc.2.1
          rw [hes] at hh ⊢
          rw [List.length_take, Nat.min_eq_left (by simpa using hh)]
        · have := cont_take hc es.length (Nat.le_refl _)
          rw [List.take_length, hes] at this
          exact this
        · have h0 := hc.2.1
          rw [hes] at h0
          have hl := run_loadRow (P := P) (w := c.w.drew) b o (len * s') (fun m => arr.getD m undef) (fun m hm => by
            have hcz : cap ≠ 0 := by
              intro hz
              have : len = 0 := by omega
              subst this
              simp at hm
            have ho' := ho.resolve_right hcz
            simp only [Nat.zero_mul] at ho'
            subst ho'
            rw [World.cell?_drew, cell_of hb]
            simp [Array.getD_eq_getD_getElem?, show m < arr.size by omega])
          simp only [Builtin.firstCells, hl]
          congr 2
          apply List.ext_getElem?
          intro m
          by_cases hm : m < len * s'
          · simp [hm, Array.getD_eq_getD_getElem?, show m < arr.size by omega]
          · rw [List.getElem?_eq_none (by simp; omega), List.getElem?_eq_none (by simp; omega)]
  · exact h.elim

end
end Go.Vx
