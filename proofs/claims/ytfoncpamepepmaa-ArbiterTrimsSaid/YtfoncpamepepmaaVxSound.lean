import Derived.Test.YtfoncpamepepmaaVxOps
import Derived.Laws.CopyRow
import Derived.Laws.MakeOwn
set_option linter.unusedSimpArgs false
set_option linter.unusedVariables false
namespace Go.Vx

theorem Ok.rho_none {c : Cx} (ok : Ok c) {h : Nat} (hn : ∀ sz es, c.rows[h]? ≠ some (.live sz es)) : c.ρ h = none := by
  cases hh : c.ρ h with
  | none => rfl
  | some b => obtain ⟨_, _, sz, es, hl⟩ := ok.own h b hh; exact absurd hl (hn sz es)

theorem RowStep.of_eq {c0 c : Cx} {h : Nat} (hr : c.rows[h]? = c0.rows[h]?) (hρ : c.ρ h = c0.ρ h)
    (hb : ∀ b, c0.ρ h = some b → c.w.heap[b]? = c0.w.heap[b]?) : RowStep c0 c h := by
  unfold RowStep
  split
  · trivial
  · rename_i hh; exact ⟨_, hr.trans hh⟩
  · rename_i hh; exact hr.trans hh
  · rename_i hh; exact .inr ⟨_, hr.trans hh, .inr ⟨rfl, hρ, fun b arr ty fz h1 h2 => ⟨arr, fz, (hb b h1).trans h2, rfl⟩⟩⟩

theorem push_old {w w' : World} {o : Obj} (hw : w'.heap = w.heap.push o) {b : Nat} (hb : b < w.heap.size) : w'.heap[b]? = w.heap[b]? := by
  rw [hw, Array.getElem?_push, if_neg (by omega)]

theorem push_new {w w' : World} {o : Obj} (hw : w'.heap = w.heap.push o) : w'.heap[w.heap.size]? = some o := by
  rw [hw, Array.getElem?_push, if_pos rfl]

/-- A handle gets a new block. -/
theorem alloc_ok {c : Cx} (ok : Ok c) (hf sz : Nat) (es : List (List V)) (arr : Array Value) (ty : TypeId) (fz : Nat × Nat)
    (hu : c.rows[hf]? = some .un ∨ ∃ es0, c.rows[hf]? = some (.live sz es0) ∧ es0.length < es.length)
    (hfz : ∀ i, i < arr.size → ¬ (fz.1 ≤ i ∧ i < fz.2)) (hc : Cont c sz es arr) (w' : World) (hw : w'.heap = c.w.heap.push (.cells arr ty fz))
    (hos : w'.os = c.w.os) (htape : w'.tape = c.w.tape) (hout : w'.output = c.w.output) :
    Ok ⟨fun h => if h = hf then some c.w.heap.size else c.ρ h, c.I, c.rows.set hf (.live sz es), w'⟩ ∧
    Ext c ⟨fun h => if h = hf then some c.w.heap.size else c.ρ h, c.I, c.rows.set hf (.live sz es), w'⟩ := by
  have hlt : hf < c.rows.length := by
    rcases hu with hu | ⟨es0, hu, _⟩ <;> exact (List.getElem?_eq_some_iff.1 hu).1
  have hx : Ext c ⟨fun h => if h = hf then some c.w.heap.size else c.ρ h, c.I, c.rows.set hf (.live sz es), w'⟩ := by
    refine ⟨hos, htape, hout, by simp [hw], fun b hb _ => push_old hw hb, fun _ h => h, fun _ h => .inl h, ?_, ?_⟩
    · intro h b hb
      dsimp only at hb
      split at hb
      · injection hb with hb; exact .inr (by omega)
      · exact .inl hb
    · intro h
      by_cases hh : h = hf
      · subst hh
        unfold RowStep
        rcases hu with hu | ⟨es0, hu, hl⟩
        · rw [hu]; exact ⟨_, by simp [hlt]; rfl⟩
        · rw [hu]; exact .inr ⟨es, by simp [hlt], .inl hl⟩
      · exact RowStep.of_eq (by simp [Ne.symm hh]) (by simp [hh]) (fun b hb => push_old hw (ok.own _ _ hb).1)
  refine ⟨⟨?_, ?_, ?_, ?_, ?_⟩, hx⟩
  · intro h h' b h1 h2
    dsimp only at h1 h2
    split at h1 <;> split at h2
    · simp_all
    · injection h1 with h1; have := (ok.own _ _ h2).1; omega
    · injection h2 with h2; have := (ok.own _ _ h1).1; omega
    · exact ok.inj _ _ _ h1 h2
  · intro h b hb
    dsimp only at hb ⊢
    split at hb
    · rename_i hh; subst hh
      injection hb with hb; subst hb
      exact ⟨by simp [hw], fun hi => absurd (ok.imm _ hi) (by omega), sz, es, by simp [hlt]⟩
    · rename_i hh
      obtain ⟨h1, h2, sz', es', h3⟩ := ok.own _ _ hb
      exact ⟨by simp [hw]; omega, h2, sz', es', by simp [Ne.symm hh, h3]⟩
  · intro h b sz' es' hb hr
    dsimp only at hb hr
    split at hb
    · rename_i hh; subst hh
      injection hb with hb; subst hb
      simp [hlt] at hr
      obtain ⟨rfl, rfl⟩ := hr
      exact ⟨arr, ty, fz, push_new hw, hfz, hc.mono hx ok⟩
    · rename_i hh
      simp [Ne.symm hh] at hr
      obtain ⟨arr', ty', fz', h1, h2, h3⟩ := ok.cont _ _ _ _ hb hr
      exact ⟨arr', ty', fz', (push_old hw (ok.own _ _ hb).1).trans h1, h2, h3.mono hx ok⟩
  · intro h sz' es' hb hr
    dsimp only at hb hr
    split at hb
    · cases hb
    · rename_i hh
      simp [Ne.symm hh] at hr
      exact ok.virt _ _ _ hb hr
  · intro b hb
    have := ok.imm b hb
    simp [hw]; omega

/-- A handle is live without a block: nothing is held. -/
theorem virt_ok {c : Cx} (ok : Ok c) (hf sz : Nat) (hu : c.rows[hf]? = some .un) :
    Ok ⟨c.ρ, c.I, c.rows.set hf (.live sz []), c.w⟩ ∧ Ext c ⟨c.ρ, c.I, c.rows.set hf (.live sz []), c.w⟩ := by
  have hlt : hf < c.rows.length := (List.getElem?_eq_some_iff.1 hu).1
  have hn : c.ρ hf = none := ok.rho_none (by simp [hu])
  have hx : Ext c ⟨c.ρ, c.I, c.rows.set hf (.live sz []), c.w⟩ := by
    refine ⟨rfl, rfl, rfl, Nat.le_refl _, fun _ _ _ => rfl, fun _ h => h, fun _ h => .inl h, fun _ _ h => .inl h, fun h => ?_⟩
    by_cases hh : h = hf
    · subst hh
      unfold RowStep
      rw [hu]; exact ⟨_, by simp [hlt]; rfl⟩
    · exact RowStep.of_eq (by simp [Ne.symm hh]) rfl (fun b hb => rfl)
  refine ⟨⟨ok.inj, ?_, ?_, ?_, ok.imm⟩, hx⟩
  · intro h b hb
    have hh : h ≠ hf := fun e => by subst e; rw [hn] at hb; cases hb
    obtain ⟨h1, h2, sz', es', h3⟩ := ok.own _ _ hb
    exact ⟨h1, h2, sz', es', by simp [Ne.symm hh, h3]⟩
  · intro h b sz' es' hb hr
    have hh : h ≠ hf := fun e => by subst e; simp only at hb; rw [hn] at hb; cases hb
    simp [Ne.symm hh] at hr
    obtain ⟨arr', ty', fz', h1, h2, h3⟩ := ok.cont _ _ _ _ hb hr
    exact ⟨arr', ty', fz', h1, h2, h3.mono hx ok⟩
  · intro h sz' es' hb hr
    by_cases hh : h = hf
    · subst hh
      simp [hlt] at hr
      exact hr.2.symm ▸ rfl
    · simp [Ne.symm hh] at hr
      exact ok.virt _ _ _ hb hr

/-- A live row is written in its block. -/
theorem upd_ok {c : Cx} (ok : Ok c) (h b sz : Nat) (es es' : List (List V)) (arr arr' : Array Value) (ty : TypeId) (fz : Nat × Nat)
    (hrow : c.rows[h]? = some (.live sz es)) (hρ : c.ρ h = some b) (hb : c.w.heap[b]? = some (.cells arr ty fz))
    (hfz : ∀ i, i < arr.size → ¬ (fz.1 ≤ i ∧ i < fz.2)) (hsize : arr'.size = arr.size) (hlen : es.length ≤ es'.length) (hc : Cont c sz es' arr') :
    Ok ⟨c.ρ, c.I, c.rows.set h (.live sz es'), c.w.setRow b arr'⟩ ∧ Ext c ⟨c.ρ, c.I, c.rows.set h (.live sz es'), c.w.setRow b arr'⟩ := by
  have hlt : h < c.rows.length := (List.getElem?_eq_some_iff.1 hrow).1
  have hx : Ext c ⟨c.ρ, c.I, c.rows.set h (.live sz es'), c.w.setRow b arr'⟩ := by
    refine ⟨rfl, rfl, rfl, by simp, fun k _ hno => setRow_other _ _ _ _ (fun e => hno h (by rw [hρ, e])), fun _ h => h, fun _ h => .inl h, fun _ _ h => .inl h, fun k => ?_⟩
    by_cases hh : k = h
    · subst hh
      unfold RowStep
      rw [hrow]
      refine .inr ⟨es', by simp [hlt], ?_⟩
      rcases Nat.lt_or_eq_of_le hlen with hl | hl
      · exact .inl hl
      · refine .inr ⟨hl, rfl, fun b' arr1 ty1 fz1 hb' hc1 => ?_⟩
        rw [hρ] at hb'; injection hb' with hb'; subst hb'
        rw [hb] at hc1; injection hc1 with hc1; injection hc1 with e1 e2 e3; subst e1 e2 e3
        exact ⟨arr', fz, setRow_heap _ _ _ _ _ _ hb, hsize⟩
    · refine RowStep.of_eq (by simp [Ne.symm hh]) rfl (fun b' hb' => setRow_other _ _ _ _ (fun e => ?_))
      subst e; exact hh (ok.inj _ _ _ hb' hρ)
  refine ⟨⟨ok.inj, ?_, ?_, ?_, fun b hb => by simpa using ok.imm b hb⟩, hx⟩
  · intro k b' hb'
    obtain ⟨h1, h2, sz', es1, h3⟩ := ok.own _ _ hb'
    by_cases hh : k = h
    · subst hh; exact ⟨by simpa using h1, h2, sz, es', by simp [hlt]⟩
    · exact ⟨by simpa using h1, h2, sz', es1, by simp [Ne.symm hh, h3]⟩
  · intro k b' sz' es1 hb' hr
    by_cases hh : k = h
    · subst hh
      simp [hlt] at hr
      obtain ⟨rfl, rfl⟩ := hr
      simp only at hb'
      rw [hρ] at hb'; injection hb' with hb'; subst hb'
      exact ⟨arr', ty, fz, setRow_heap _ _ _ _ _ _ hb, by rw [hsize]; exact hfz, hc.mono hx ok⟩
    · simp [Ne.symm hh] at hr
      obtain ⟨arr1, ty1, fz1, h1, h2, h3⟩ := ok.cont _ _ _ _ hb' hr
      refine ⟨arr1, ty1, fz1, ?_, h2, h3.mono hx ok⟩
      rw [setRow_other _ _ _ _ (fun e => ?_)]; exact h1
      subst e; exact hh (ok.inj _ _ _ hb' hρ)
  · intro k sz' es1 hb' hr
    by_cases hh : k = h
    · subst hh; simp only at hb'; rw [hρ] at hb'; cases hb'
    · simp [Ne.symm hh] at hr
      exact ok.virt _ _ _ hb' hr

end Go.Vx
