import Derived.Test.YtkbjfoodikoppaaDoorVxZ
import Derived.Test.YtkbjfoodikoppaaDoorVxArg4
set_option linter.unusedSectionVars false
set_option linter.unusedSimpArgs false
set_option linter.unusedVariables false
namespace Go.Vx
section
variable [CtxPred] {P : Program}
/-- a call of yield -/
theorem call_y {l : Nat} {first cap args : List V} {rows : Rows} {v : V} {ups : List (Nat × RowS)} {κ : KV} (hy : YldX P l (first ++ args) rows v ups) (h : κ v ups) : callA P (.fn (.yield l) first cap) args rows κ := ⟨v, ups, hy, h⟩
theorem yld_all {l : Nat} {vals : List V} {rows : Rows} {v : V} {ups : List (Nat × RowS)} (hy : YldX P l vals rows v ups) : (ups.map (·.1)).all (List.range 64).contains = true := by
  rw [List.all_eq_true]
  intro x hx
  obtain ⟨p, hp, rfl⟩ := List.mem_map.1 hx
  simpa using hy.2.1 p hp
end
theorem setR_get {l : Rows} {h g : Nat} {r : RowS} (hl : h < l.length) : (l.set h r)[g]? = if g = h then some r else l[g]? := by
  rw [List.getElem?_set]
  by_cases hg : h = g
  · subst hg; simp [hl]
  · simp [hg, Ne.symm hg]
def c_one (_ : Cx) (e : List V) : Prop := ∀ v ∈ e, oneV v = true
/-- the cells of a row, said in another way -/
theorem relab_ok {c : Cx} (ok : Ok c) {h sz : Nat} {es es' : List (List V)} (hr : c.rows[h]? = some (.live sz es)) (hl : es.length = es'.length)
    (hc : ∀ (i : Nat) (e e' : List V), es[i]? = some e → es'[i]? = some e' → e.length = e'.length ∧ ∀ (j : Nat) (v v' : V), e[j]? = some v → e'[j]? = some v' → oneV v' = true ∧ ∀ x, Rep c x v → Rep c x v') :
    Ok ⟨c.ρ, c.I, c.rows.set h (.live sz es'), c.w⟩ ∧ Ext c ⟨c.ρ, c.I, c.rows.set h (.live sz es'), c.w⟩ := by
  have hlt : h < c.rows.length := (List.getElem?_eq_some_iff.1 hr).1
  have hx : Ext c ⟨c.ρ, c.I, c.rows.set h (.live sz es'), c.w⟩ := by
    refine ⟨rfl, rfl, rfl, Nat.le_refl _, fun _ _ _ => rfl, fun _ h => h, fun _ h => .inl h, fun _ _ h => .inl h, fun g => ?_⟩
    by_cases hg : g = h
    · subst hg
      unfold RowStep
      rw [hr]
      refine .inr ⟨es', by simp only; rw [setR_get hlt, if_pos rfl], .inr ⟨hl, rfl, fun b arr ty fz _ hb => ⟨arr, fz, hb, rfl⟩⟩⟩
    · exact RowStep.of_eq (by simp only; rw [setR_get hlt, if_neg hg]) rfl (fun _ _ => rfl)
  refine ⟨⟨ok.inj, fun g b hb => ?_, fun g b sz1 es1 hb hr1 => ?_, fun g sz1 es1 hn hr1 => ?_, ok.imm, .step ok hx fun g o hr1 => ?_⟩, hx⟩
  · obtain ⟨h1, h2, r, h3, h4⟩ := ok.own g b hb
    by_cases hg : g = h
    · subst hg; exact ⟨h1, h2, .live sz es', by simp only; rw [setR_get hlt, if_pos rfl], trivial⟩
    · exact ⟨h1, h2, r, by simp only; rw [setR_get hlt, if_neg hg]; exact h3, h4⟩
  · simp only at hr1
    rw [setR_get hlt] at hr1
    by_cases hg : g = h
    · subst hg
      rw [if_pos rfl] at hr1
      injection hr1 with hr1; injection hr1 with e1 e2; subst e1 e2
      obtain ⟨arr, ty, fz, h1, h2, h3, h4, h5⟩ := ok.cont g b sz es hb hr
      refine ⟨arr, ty, fz, h1, h2, fun e' he' => ?_, by rw [← hl]; exact h4, fun i e' j v' h6 h7 => ?_⟩
      · obtain ⟨i, hi⟩ := List.getElem?_of_mem he'
        have hil : i < es.length := by rw [hl]; exact (List.getElem?_eq_some_iff.1 hi).1
        obtain ⟨k1, k2⟩ := hc i _ e' (List.getElem?_eq_getElem hil) hi
        have := h3 _ (List.getElem_mem hil)
        refine ⟨by rw [← k1]; exact this.1, fun v' hv' => ?_⟩
        obtain ⟨j, hj⟩ := List.getElem?_of_mem hv'
        have hjl : j < (es[i]'hil).length := by rw [k1]; exact (List.getElem?_eq_some_iff.1 hj).1
        exact (k2 j _ v' (List.getElem?_eq_getElem hjl) hj).1
      · have hil : i < es.length := by rw [hl]; exact (List.getElem?_eq_some_iff.1 h6).1
        obtain ⟨k1, k2⟩ := hc i _ e' (List.getElem?_eq_getElem hil) h6
        have hjl : j < (es[i]'hil).length := by rw [k1]; exact (List.getElem?_eq_some_iff.1 h7).1
        obtain ⟨x, hx1, hx2⟩ := h5 i _ j _ (List.getElem?_eq_getElem hil) (List.getElem?_eq_getElem hjl)
        exact ⟨x, hx1, ((k2 j _ v' (List.getElem?_eq_getElem hjl) h7).2 x hx2).mono hx ok⟩
    · rw [if_neg hg] at hr1
      obtain ⟨arr, ty, fz, h1, h2, h3⟩ := ok.cont g b sz1 es1 hb hr1
      exact ⟨arr, ty, fz, h1, h2, h3.mono hx ok⟩
  · simp only at hr1 hn
    rw [setR_get hlt] at hr1
    by_cases hg : g = h
    · subst hg
      rw [if_pos rfl] at hr1
      injection hr1 with hr1; injection hr1 with e1 e2; subst e1 e2
      have := ok.virt g sz es hn hr
      subst this
      exact List.eq_nil_of_length_eq_zero hl.symm
    · rw [if_neg hg] at hr1
      exact ok.virt g sz1 es1 hn hr1
  · simp only at hr1
    rw [setR_get hlt] at hr1
    by_cases hg : g = h
    · rw [if_pos hg] at hr1; simp at hr1
    · rw [if_neg hg] at hr1; exact ⟨hr1, rfl, fun _ _ => rfl⟩
/-- an empty slice in a cell becomes a row of its own -/
theorem weak_nilsR {b0 : Nat} {fr : List V} {rows : Rows} (h sz : Nat) (hr : rows[h]? = some (.live 1 [[.d .nils]])) : Weak b0 ⟨fr, rows⟩ ⟨fr, rows.set h (.live 1 [[.osl sz rows.length 0 0 0]]) ++ [.live sz []]⟩ := by
  rintro c0 a w - hs
  have hlt : h < rows.length := (List.getElem?_eq_some_iff.1 hr).1
  obtain ⟨ρ, I, ok, hx, hd, hl, hf⟩ := hs.grow 1
  have hu : (rows ++ List.replicate 1 RowS.un)[rows.length]? = some .un := by simp
  have hv2 := virt_ok ok rows.length sz hu
  have hset : (rows ++ List.replicate 1 RowS.un).set rows.length (.live sz []) = rows ++ [.live sz []] := by simp
  simp only [St.grow] at hv2
  rw [hset] at hv2
  obtain ⟨ok2, hx2⟩ := hv2
  have hρ : ρ rows.length = none := ok.rho_none (by simp [St.grow])
  have hr2 : (rows ++ [RowS.live sz []])[h]? = some (.live 1 [[.d .nils]]) := by rw [List.getElem?_append_left hlt]; exact hr
  obtain ⟨ok3, hx3⟩ := relab_ok ok2 (h := h) (es' := [[.osl sz rows.length 0 0 0]]) hr2 rfl (fun i e e' h1 h2 => by
    cases i with
    | succ i => simp at h1
    | zero =>
      simp at h1 h2
      subst h1 h2
      refine ⟨rfl, fun j v v' h3 h4 => ?_⟩
      cases j with
      | succ j => simp at h3
      | zero =>
        simp at h3 h4
        subst h3 h4
        refine ⟨rfl, fun x hxr => ?_⟩
        cases hxr with | d _ _ hxr =>
        cases hxr
        exact .oslVirt sz rows.length (by simp) hρ)
  have e : (rows ++ [RowS.live sz []]).set h (.live 1 [[.osl sz rows.length 0 0 0]]) = rows.set h (.live 1 [[.osl sz rows.length 0 0 0]]) ++ [.live sz []] := by
    rw [List.set_append_left _ _ hlt]
  simp only [e] at ok3 hx3
  refine ⟨ρ, I, ok3, (hx.trans hx2).trans hx3, (hd.mono hx2).mono hx3, hl, fun j => ?_⟩
  exact ((hf j).mono hx2 ok).mono hx3 ok2
/-- an empty slice in a cell of a row of one element becomes a row of its own -/
theorem weak_nilsC {b0 : Nat} {fr : List V} {rows : Rows} (h s sz j : Nat) (e : List V) (hr : rows[h]? = some (.live s [e])) (hj : e[j]? = some (.d .nils)) :
    Weak b0 ⟨fr, rows⟩ ⟨fr, rows.set h (.live s [e.set j (.osl sz rows.length 0 0 0)]) ++ [.live sz []]⟩ := by
  rintro c0 a w - hs
  have hlt : h < rows.length := (List.getElem?_eq_some_iff.1 hr).1
  obtain ⟨ρ, I, ok, hx, hd, hl, hf⟩ := hs.grow 1
  have hu : (rows ++ List.replicate 1 RowS.un)[rows.length]? = some .un := by simp
  have hv2 := virt_ok ok rows.length sz hu
  have hset : (rows ++ List.replicate 1 RowS.un).set rows.length (.live sz []) = rows ++ [.live sz []] := by simp
  simp only [St.grow] at hv2
  rw [hset] at hv2
  obtain ⟨ok2, hx2⟩ := hv2
  have hρ : ρ rows.length = none := ok.rho_none (by simp [St.grow])
  have hr2 : (rows ++ [RowS.live sz []])[h]? = some (.live s [e]) := by rw [List.getElem?_append_left hlt]; exact hr
  have hone : c_one ⟨ρ, I, rows ++ [RowS.live sz []], w⟩ e := fun v hv => by
    cases hρh : ρ h with
    | none => have := ok2.virt h s [e] hρh hr2; simp at this
    | some b =>
      obtain ⟨arr, ty, fz, h1, h2, h3, h4, h5⟩ := ok2.cont h b s [e] hρh hr2
      exact (h3 e (by simp)).2 v hv
  obtain ⟨ok3, hx3⟩ := relab_ok ok2 (h := h) (es' := [e.set j (.osl sz rows.length 0 0 0)]) hr2 rfl (fun i e0 e' h1 h2 => by
    cases i with
    | succ i => simp at h1
    | zero =>
      simp at h1 h2
      subst h1 h2
      refine ⟨by simp, fun k v v' h3 h4 => ?_⟩
      rw [List.getElem?_set] at h4
      by_cases hk : j = k
      · subst hk
        rw [hj] at h3; injection h3 with h3; subst h3
        rw [if_pos rfl] at h4
        split at h4
        · injection h4 with h4; subst h4
          refine ⟨rfl, fun x hxr => ?_⟩
          cases hxr with | d _ _ hxr =>
          cases hxr
          exact .oslVirt sz rows.length (by simp) hρ
        · cases h4
      · rw [if_neg hk, h3] at h4
        injection h4 with h4; subst h4
        exact ⟨hone v (List.mem_of_getElem? h3), fun x hx => hx⟩)
  have e1 : (rows ++ [RowS.live sz []]).set h (.live s [e.set j (.osl sz rows.length 0 0 0)]) = rows.set h (.live s [e.set j (.osl sz rows.length 0 0 0)]) ++ [.live sz []] := by
    rw [List.set_append_left _ _ hlt]
  simp only [e1] at ok3 hx3
  refine ⟨ρ, I, ok3, (hx.trans hx2).trans hx3, (hd.mono hx2).mono hx3, hl, fun j => ?_⟩
  exact ((hf j).mono hx2 ok).mono hx3 ok2
/-- a record of a loop among the rows -/
theorem rowB_obj {m : Nat} {o : GO} : rowB m (RowS.obj o) := by
  first | trivial | (unfold rowB; trivial) | simp [rowB]
end Go.Vx

namespace Go.Vx
/-- a call in the rows of its caller: all that is held is data from then on -/
theorem inl_all [CtxPred] {P : Program} {f : FuncId} {vals vals' : List V} {rows : Rows} {v : V} {K : V → Rows → Prop} (l : List Nat) (hl : ∀ (h : Nat) (r : RowS), rows[h]? = some r → r.isL → h ∈ l)
    (hs : snapL rows vals vals') (hc : CallP P f vals' v) (hk : K v (setRows rows (l.map fun h => (h, RowS.dead)))) : InlP P f vals rows K := by
  refine ⟨hc.1, fun c args ok _ hr hargs => ?_⟩
  subst hr
  obtain ⟨okk, hxk⟩ := kill_ok ok l
  obtain ⟨hlen, hsp⟩ := snapL_spec hs
  refine (hc.2 (killC c l).I c.w args (bare_ok okk) ⟨by rw [hargs.1]; exact hlen, fun j v' x h1 h2 => ?_⟩).mono ?_
  · have hj : j < vals.length := by rw [hlen]; exact (List.getElem?_eq_some_iff.1 h1).1
    have h3 : vals[j]? = some vals[j] := List.getElem?_eq_getElem hj
    have := snap_rep ok (hsp j _ _ h3 h1) (hargs.2 j _ x h3 h2)
    refine bare_mono (fun b hb => ?_) this
    rcases hb with hb | ⟨h, hb⟩
    · exact .inl hb
    · obtain ⟨_, _, r, h4, h5⟩ := ok.own h b hb
      exact .inr ⟨h, hl h r h4 h5, hb⟩
  · rintro e w' ⟨u, I', he, ok', hx, hr⟩
    obtain ⟨h1, h2⟩ := back_ok okk hx ok'
    exact ⟨u, _, v, he, rfl, h1, hxk.trans h2, bare_lift hr _ _, hk⟩
/-- a looked-into call answers what a cell holds -/
theorem ri_c {a sz : Nat} {agg : Bool} {fr : List V} {rows : Rows} {κ : V → Rows → Prop} (h : loadA rows agg sz (nth fr a) (fun v _ => κ v rows)) : retI [.cell a agg sz] κ .ret ⟨fr, rows⟩ := by
  have := (r_op (P := default) (base := 0) (hi := 0) (fr := fr) (rows := rows) (dst := none) (κ := fun v _ => κ v rows) (o := .load agg sz (.t a)) rfl).symm.trans r_load
  rw [Opd.ev] at this
  rw [← this] at h
  exact h
/-- a cell that is kept, or that becomes data as its rows are given away -/
inductive Ks (l : List Nat) (rows : Rows) : V → V → Prop where
  | same (v : V) : Ks l rows v v
  | snap (v v' : V) (h : snapOk rows v) (hg : ∀ g ∈ hAll v, g ∈ l) (he : snapV rows v = v') (ho : oneV v' = true) : Ks l rows v v'
theorem weak_kill1 {b0 : Nat} {fr : List V} {rows rows' : Rows} {h sz : Nat} {e e' : List V} (l : List Nat) (hr : rows[h]? = some (.live sz [e])) (hn : h ∉ l) (hl : e.length = e'.length)
    (hk : ∀ (j : Nat) (v v' : V), e[j]? = some v → e'[j]? = some v' → Ks l rows v v') (he : (setRows rows (l.map fun h => (h, RowS.dead))).set h (.live sz [e']) = rows') : Weak b0 ⟨fr, rows⟩ ⟨fr, rows'⟩ := by
  subst he
  rintro c0 a w - ⟨ρ, I, ok, hx, hd, hlen, hf⟩
  obtain ⟨ok2, hx2⟩ := kill_ok ok l
  have hr2 : (setRows rows (l.map fun h => (h, RowS.dead)))[h]? = some (.live sz [e]) := by
    have := setRows_kill l rows h
    rw [if_neg (fun x => hn x.1), hr] at this
    exact this
  have hlt := (List.getElem?_eq_some_iff.1 hr2).1
  obtain ⟨c3, hc3⟩ : ∃ c3 : Cx, c3 = ⟨(killC ⟨ρ, I, rows, w⟩ l).ρ, (killC ⟨ρ, I, rows, w⟩ l).I, (setRows rows (l.map fun h => (h, RowS.dead))).set h (.live sz [e']), w⟩ := ⟨_, rfl⟩
  have hrow : ∀ g, g ≠ h → c3.rows[g]? = (killC ⟨ρ, I, rows, w⟩ l).rows[g]? := fun g hg => by
    rw [hc3]; simp only [killC]
    rw [List.getElem?_set_ne (fun x => hg x.symm)]
  have hrowh : c3.rows[h]? = some (.live sz [e']) := by
    rw [hc3]; simp only
    rw [List.getElem?_set_self hlt]
  have hx3 : Ext (killC ⟨ρ, I, rows, w⟩ l) c3 := by
    refine ⟨by rw [hc3]; rfl, by rw [hc3]; rfl, by rw [hc3]; rfl, by rw [hc3]; exact Nat.le_refl _, fun _ _ _ => by rw [hc3]; rfl, fun b hb => by rw [hc3]; exact hb, fun b hb => by rw [hc3] at hb; exact .inl hb, fun g b hb => by rw [hc3] at hb; exact .inl hb, fun g => ?_⟩
    by_cases hg : g = h
    · subst hg
      unfold RowStep
      have e1 : (killC ⟨ρ, I, rows, w⟩ l).rows[g]? = some (.live sz [e]) := hr2
      rw [e1]
      exact .inr ⟨_, hrowh, .inr ⟨rfl, by rw [hc3], fun b arr ty fz _ hb => ⟨arr, fz, by rw [hc3]; exact hb, rfl⟩⟩⟩
    · cases hg2 : (killC ⟨ρ, I, rows, w⟩ l).rows[g]? with
      | none => unfold RowStep; rw [hg2]; trivial
      | some r =>
        exact RowStep.of_eq (hrow g hg) (by rw [hc3]) (fun _ _ => by rw [hc3]; rfl)
  have ok3 : Ok c3 := by
    refine ⟨fun g g' b h1 h2 => ?_, fun g b hb => ?_, fun g b sz' es hb hr' => ?_, fun g sz' es hb hr' => ?_, fun b hb => ?_, .step ok2 hx3 fun g o hr' => ?_⟩
    · rw [hc3] at h1 h2; exact ok2.inj g g' b h1 h2
    · rw [hc3] at hb
      obtain ⟨h1, h2, r, h3, h4⟩ := ok2.own g b hb
      refine ⟨by rw [hc3]; exact h1, by rw [hc3]; exact h2, ?_⟩
      by_cases hg : g = h
      · subst hg; exact ⟨_, hrowh, by
          have e1 : (killC ⟨ρ, I, rows, w⟩ l).rows[g]? = some (.live sz [e]) := hr2
          rw [e1] at h3; injection h3 with h3; subst h3; exact h4⟩
      · exact ⟨r, by rw [hrow g hg]; exact h3, h4⟩
    · have hb' : (killC ⟨ρ, I, rows, w⟩ l).ρ g = some b := by rw [hc3] at hb; exact hb
      by_cases hg : g = h
      · subst hg
        rw [hrowh] at hr'
        injection hr' with hr'; injection hr' with e1 e2; subst e1 e2
        obtain ⟨arr, ty, fz, h1, h2, h3, h4, h5⟩ := ok2.cont g b sz [e] hb' hr2
        have hbρ : ρ g = some b := by
          simp only [killC] at hb'
          rw [if_neg hn] at hb'
          exact hb'
        obtain ⟨arr0, ty0, fz0, k1, k2, k3, k4, k5⟩ := ok.cont g b sz [e] hbρ hr
        have ea : arr0 = arr := by
          have : w.heap[b]? = some (.cells arr ty fz) := h1
          have k1' : w.heap[b]? = some (.cells arr0 ty0 fz0) := k1
          rw [this] at k1'
          injection k1' with k1'
          injection k1' with k1' _ _
          exact k1'.symm
        subst ea
        have hel : e.length = sz := (h3 e (by simp)).1
        refine ⟨arr0, ty, fz, by rw [hc3]; exact h1, h2, fun x hx => ?_, by simpa using h4, fun i x j v' h6 h7 => ?_⟩
        · simp only [List.mem_cons, List.not_mem_nil, or_false] at hx
          subst hx
          refine ⟨by omega, fun v' hv' => ?_⟩
          obtain ⟨j, hj, rfl⟩ := List.getElem_of_mem hv'
          have hje : j < e.length := by omega
          have h8 := hk j _ _ (List.getElem?_eq_getElem hje) (List.getElem?_eq_getElem hj)
          generalize hq : x[j] = y at h8
          generalize hq2 : e[j] = z at h8
          cases h8 with
          | same => exact (h3 e (by simp)).2 _ (hq2 ▸ List.getElem_mem hje)
          | snap _ _ _ _ ho => exact ho
        · cases i with
          | succ i => simp at h6
          | zero =>
            simp at h6; subst h6
            have hj := (List.getElem?_eq_some_iff.1 h7).1
            have hje : j < e.length := by omega
            obtain ⟨y, h8, h9⟩ := h5 0 e j _ (by simp) (List.getElem?_eq_getElem hje)
            obtain ⟨y2, m8, m9⟩ := k5 0 e j _ (by simp) (List.getElem?_eq_getElem hje)
            rw [h8] at m8; injection m8 with m8; subst m8
            refine ⟨y, h8, ?_⟩
            have hK := hk j _ _ (List.getElem?_eq_getElem hje) h7
            generalize e[j] = z at hK h9 m9
            cases hK with
            | same => exact h9.mono hx3 ok2
            | snap _ hsn hg hev ho =>
              subst hev
              have := snapV_repJ ok (J := (killC ⟨ρ, I, rows, w⟩ l).I) (fun b hb => .inl hb) m9 hsn (fun g hgm b hgb => .inr ⟨g, hg g hgm, hgb⟩)
              rw [hc3]
              exact bare_lift this _ _
      · rw [hrow g hg] at hr'
        obtain ⟨arr, ty, fz, h1, h2, h3⟩ := ok2.cont g b sz' es hb' hr'
        exact ⟨arr, ty, fz, by rw [hc3]; exact h1, h2, h3.mono hx3 ok2⟩
    · have hb' : (killC ⟨ρ, I, rows, w⟩ l).ρ g = none := by rw [hc3] at hb; exact hb
      by_cases hg : g = h
      · subst hg
        have := ok2.virt g sz [e] hb' hr2
        cases this
      · rw [hrow g hg] at hr'
        exact ok2.virt g sz' es hb' hr'
    · rw [hc3] at hb ⊢; exact ok2.imm b hb
    · by_cases hg : g = h
      · subst hg; rw [hrowh] at hr'; injection hr' with hr'; cases hr'
      · rw [hrow g hg] at hr'
        exact ⟨hr', by rw [hc3], fun _ _ => by rw [hc3]; rfl⟩
  have hx4 := hx2.trans hx3
  subst hc3
  exact ⟨_, _, ok3, hx.trans hx4, hd.mono hx4, hlen, fun i => (hf i).mono hx4 ok⟩
theorem weak_dead {b0 : Nat} {fr : List V} {rows rows' : Rows} (hs : List Nat) (he : setRows rows (hs.map fun h => (h, RowS.dead)) = rows') : Weak b0 ⟨fr, rows⟩ ⟨fr, rows'⟩ := by
  subst he
  rintro c0 a w - ⟨ρ, I, ok, hx, hd, hl, hf⟩
  obtain ⟨h1, h2⟩ := kill_ok ok hs
  exact ⟨_, _, h1, hx.trans h2, hd.mono h2, hl, fun i => (hf i).mono h2 ok⟩
end Go.Vx
