import Derived.Test.YtfoncpamepepmaaVxDet
import Derived.Orders
import Derived.Tactics
set_option linter.unusedSimpArgs false
set_option linter.unusedVariables false
namespace Go.Vx

section
variable {P : Program}

/-- One statement, come to one value and one change of the rows. -/
def StepOK (P : Program) (base : Nat) (s : AStm) (S : St) (v : V) (ups : List (Nat × RowS)) : Prop :=
  match s.guard with
  | none => actW P base s S fun v' u' => v' = v ∧ u' = ups
  | some (t, want) =>
    match nth S.fr t with
    | .d (.bool b) => (b = want ∧ actW P base s S fun v' u' => v' = v ∧ u' = ups) ∨ (b ≠ want ∧ v = .tup [] ∧ ups = [])
    | .tup [] => v = .tup [] ∧ ups = []
    | _ => False

theorem act_det {base : Nat} {s : AStm} {S : St} {K : V → List (Nat × RowS) → Prop} (h : actW P base s S K) :
    ∃ v ups, (actW P base s S fun v' u' => v' = v ∧ u' = ups) ∧ K v ups := by
  unfold actW at h ⊢
  split at h
  · rename_i o e
    obtain ⟨hm, h⟩ := h
    obtain ⟨⟨v, u⟩, h1, h2⟩ := (dm_opW o (Opd.ev S.fr) S.rows (base + s.hi)).det (fun p => K p.1 p.2) h
    refine ⟨v, u, ⟨hm, ?_⟩, h2⟩
    exact (dm_opW o (Opd.ev S.fr) S.rows (base + s.hi)).mono (fun p => p = (v, u)) (fun p => p.1 = v ∧ p.2 = u) (by rintro p rfl; exact ⟨rfl, rfl⟩) h1
  · unfold callW at h ⊢
    split at h
    · obtain ⟨v, ups, h1, h2⟩ := h
      exact ⟨v, ups, ⟨v, ups, h1, rfl, rfl⟩, h2⟩
    · exact h.elim

theorem stm_det {base : Nat} {s : AStm} {S : St} {K : V → List (Nat × RowS) → Prop} (h : stmU P base s S K) : ∃ v ups, StepOK P base s S v ups ∧ K v ups := by
  unfold stmU at h
  cases hg : s.guard with
  | none =>
    simp only [hg] at h
    simp only [StepOK, hg]
    exact act_det h
  | some tw =>
    obtain ⟨t, want⟩ := tw
    simp only [hg] at h
    simp only [StepOK, hg]
    split at h
    · rename_i b e
      simp only [e]
      by_cases hb : b = want
      · obtain ⟨v, u, h1, h2⟩ := act_det (h.1 hb)
        exact ⟨v, u, .inl ⟨hb, h1⟩, h2⟩
      · exact ⟨.tup [], [], .inr ⟨hb, rfl, rfl⟩, h.2 hb⟩
    · rename_i e
      simp only [e]
      exact ⟨.tup [], [], ⟨rfl, rfl⟩, h⟩
    · exact h.elim

def compGuard (ops : Array Oper) : Option (Nat × Bool) → Option (Option (Nat × Bool))
  | none => some none
  | some (j, w) => ((ops[j]?).bind (·.dst)).map fun t => some (t, w)

def compAct (P : Program) (o : Oper) : Option AAct :=
  match o.op with
  | .call { callee := .value f, args, argTypes := _ } => (compOpd f).bind fun f => (args.toList.mapM compOpd).map fun a => .call f a
  | op => (compOp P op o.type).map .op

def compStm (P : Program) (ops : Array Oper) (o : Oper) (hi : Nat) : Option AStm :=
  (compGuard ops o.guard).bind fun g => (compAct P o).map fun a => ⟨o.dst, hi, g, a⟩

theorem opd_rep {c : Cx} {a : Act} {fr : List V} (hf : ∀ i, Rep c (a.tmps.getD i undef) (nth fr i)) : ∀ x o, compOpd x = some o → Rep c (a.eval x) (o.ev fr) := by
  intro x o h
  cases x with
  | tmp t => injection h with h; subst h; exact hf t
  | const v =>
    injection h with h; subst h
    cases hv : absV v with
    | none => exact .any _
    | some y => exact absV_rep hv
  | global g => cases h
  | func f =>
    injection h with h; subst h
    exact .fn _ _ _ _ _ rfl rfl (fun j v x h => by simp at h) (fun j v x h => by simp at h)

theorem yield_of {ops : Array Oper} {a : Act} {j t : Nat} {w : Bool} (h : compGuard ops (some (j, w)) = some (some (t, w))) : yielded ops a.tmps j = (match a.tmps[t]? with | some (.bool b) => some b | _ => none) := by
  obtain ⟨t', ht, h⟩ := Option.map_eq_some_iff.1 h
  injection h with h; injection h with h; subst h
  unfold yielded
  rw [ht]
  rfl

theorem stm_sound {ops : Array Oper} {o : Oper} {hi base : Nat} {s : AStm} {S : St} {v : V} {ups : List (Nat × RowS)} {c0 : Cx} {a : Act} {w : World} {K' : Act → World → Prop} {Q : Exit → Act → World → Prop}
    (hc : compStm P ops o hi = some s) (hst : StepOK P base s S v ups) (hsat : Sat c0 S a w) (hK : ∀ a' w', Sat c0 (S.after s v ups) a' w' → K' a' w') :
    if Region.wanted o (yielded ops a.tmps) then o.wp P a w K' Q else K' (a.put o.dst undef) w := by
  obtain ⟨g, hg, hc⟩ := Option.bind_eq_some_iff.1 hc
  obtain ⟨ac, hac, rfl⟩ := Option.map_eq_some_iff.1 hc
  obtain ⟨ρ, I, ok, hx, hd, hl, hf⟩ := hsat
  have hopd := opd_rep hf
  -- the statement carried out
  have take : (actW P base ⟨o.dst, hi, g, ac⟩ S fun v' u' => v' = v ∧ u' = ups) → o.wp P a w K' Q := by
    intro hact
    unfold Oper.wp
    unfold compAct at hac
    split at hac
    · rename_i f args argTypes hop
      obtain ⟨f', hf', hac⟩ := Option.bind_eq_some_iff.1 hac
      obtain ⟨args', ha', rfl⟩ := Option.map_eq_some_iff.1 hac
      simp only [actW, callW] at hact
      have hfr := hopd f f' hf'
      split at hact
      · rename_i n first cap e1
        rw [e1] at hfr
        obtain ⟨v', ups', hcd, rfl, rfl⟩ := hact
        obtain ⟨hal, har⟩ := list_rep (c := ⟨ρ, I, S.rows, w⟩) hopd ha'
        generalize hfv : a.eval f = fv at hfr
        cases hfr with | fn _ fs cps _ _ h1 h2 h3 h4 =>
        have hent : Enters P n := hcd.enters
        obtain ⟨fn, hfn, hnm, hbd⟩ := hent
        have hrun : (execOp a.eval o).run P w = .ok (.enter n (fs ++ args.map a.eval ++ cps)) w := by
          have hnm' : ¬ fn.name = "runtime.NumGoroutine" := by simpa using hnm
          have hbd' : ¬ fn.body = none := fun e => by rw [e] at hbd; simp at hbd
          unfold execOp
          rw [hop]
          simp [resolve, hfv, Deferred.ofValue, invoke, callFunc, hfn, hnm', hbd']
        rw [hrun, Oper.upon_enter]
        have hargs : RepL ⟨ρ, I, S.rows, w⟩ (fs ++ args.map a.eval ++ cps).toList (first ++ args'.map (Opd.ev S.fr) ++ cap) := by
          refine ⟨by simp at hal ⊢; omega, fun j v x hv hx => ?_⟩
          simp only [Array.toList_append] at hx
          rw [List.getElem?_append] at hv hx
          simp only [List.length_append, Array.length_toList] at hv hx
          by_cases c1 : j < fs.size + (args.map a.eval).size
          · have c2 : j < first.length + (args'.map (Opd.ev S.fr)).length := by omega
            rw [if_pos c2] at hv
            rw [if_pos c1, List.getElem?_append] at hx
            rw [List.getElem?_append] at hv
            simp only [Array.length_toList] at hx
            by_cases c3 : j < fs.size
            · rw [if_pos c3] at hx
              rw [if_pos (by omega)] at hv
              exact h3 j v x hv (by simpa using hx)
            · rw [if_neg c3] at hx
              rw [if_neg (by omega)] at hv
              rw [← h1] at hv
              exact har _ v x hv (by simpa using hx)
          · have c2 : ¬ j < first.length + (args'.map (Opd.ev S.fr)).length := by omega
            rw [if_neg c2] at hv
            rw [if_neg c1] at hx
            have c3 : j - (first.length + (args'.map (Opd.ev S.fr)).length) = j - (fs.size + (args.map a.eval).size) := by omega
            rw [c3] at hv
            exact h4 _ v x hv (by simpa using hx)
        refine (callX_sound ok hargs hcd).mono ?_
        rintro e w' ⟨u, c', rfl, rfl, ok', hx', hrows, hrep⟩
        refine hK _ _ ?_
        have hfr' : ∀ i, Rep c' (a.tmps.getD i undef) (nth S.fr i) := fun i => (hf i).mono hx' ok
        have hc' : c' = ⟨c'.ρ, c'.I, setRows S.rows ups', c'.w⟩ := by cases c'; simp only at hrows; subst hrows; rfl
        have hsat := Sat.put (c0 := c0) (S := S) (a := a) (w := c'.w) (ρ := c'.ρ) (I := c'.I) (rows := setRows S.rows ups') (by rw [← hc']; exact ok') (by rw [← hc']; exact hx.trans hx') hd hl (fun i => by rw [← hc']; exact hfr' i) o.dst (u := u) (v := v') (by rw [← hc']; exact hrep)
        exact hsat
      · exact hact.elim
    · rename_i hncall
      obtain ⟨ao, hao, rfl⟩ := Option.map_eq_some_iff.1 hac
      simp only [actW] at hact
      obtain ⟨hm, hact⟩ := hact
      obtain ⟨v', ups', n, c', ⟨rfl, rfl⟩, hrun, ok', hx', hrows, hn⟩ := comp_sound (o := o) hao ok hopd hm hact
      rw [hrun]
      have hfr' : ∀ i, Rep c' (a.tmps.getD i undef) (nth S.fr i) := fun i => (hf i).mono hx' ok
      have hc' : c' = ⟨c'.ρ, c'.I, setRows S.rows ups', c'.w⟩ := by cases c'; simp only at hrows; subst hrows; rfl
      have hput : ∀ u, Rep c' u v' → Sat c0 (S.after ⟨o.dst, hi, g, .op ao⟩ v' ups') (a.put o.dst u) c'.w := fun u hu =>
        Sat.put (c0 := c0) (S := S) (a := a) (w := c'.w) (ρ := c'.ρ) (I := c'.I) (rows := setRows S.rows ups') (by rw [← hc']; exact ok') (by rw [← hc']; exact hx.trans hx') hd hl (fun i => by rw [← hc']; exact hfr' i) o.dst (u := u) (v := v') (by rw [← hc']; exact hu)
      rcases hn with ⟨u, rfl, hu⟩ | ⟨rfl, rfl⟩
      · exact hK _ _ (hput u hu)
      · exact hK _ _ (hput undef (.any _))
  have skip : v = .tup [] → ups = [] → K' (a.put o.dst undef) w := by
    rintro rfl rfl
    exact hK _ _ (Sat.put ok hx hd hl hf o.dst (.tup #[] [] rfl (fun j v x h => by simp at h)))
  unfold StepOK at hst
  cases hog : o.guard with
  | none =>
    rw [hog] at hg
    injection hg with hg; subst hg
    rw [if_pos (by simp [Region.wanted, hog])]
    exact take hst
  | some jw =>
    obtain ⟨j, want⟩ := jw
    rw [hog] at hg
    have hg' := hg
    obtain ⟨t, ht, hg2⟩ := Option.map_eq_some_iff.1 hg
    subst hg2
    simp only at hst
    have hy := yield_of (a := a) hg'
    have hrt := hf t
    split at hst
    · rename_i b e1
      rw [e1] at hrt
      have hb := rep_bool hrt
      have hlt : t < a.tmps.size := by
        rcases Nat.lt_or_ge t a.tmps.size with h | h
        · exact h
        · rw [Array.getD_eq_getD_getElem?, Array.getElem?_eq_none h] at hb
          simp [undef] at hb
      have hget : a.tmps[t]? = some (.bool b) := by
        rw [Array.getD_eq_getD_getElem?, Array.getElem?_eq_getElem hlt] at hb
        rw [Array.getElem?_eq_getElem hlt]
        simpa using hb
      rw [hget] at hy
      simp only at hy
      rcases hst with ⟨rfl, hst⟩ | ⟨hne, h1, h2⟩
      · rw [if_pos (by simp [Region.wanted, hog, hy])]
        exact take hst
      · rw [if_neg (by simp [Region.wanted, hog, hy, hne])]
        exact skip h1 h2
    · rename_i e1
      rw [e1] at hrt
      have hyn : yielded ops a.tmps j = none := by
        rw [hy]
        generalize hu : a.tmps.getD t undef = u at hrt
        cases hrt with | tup vs _ hlen hrep =>
        rw [Array.getD_eq_getD_getElem?] at hu
        cases hgt : a.tmps[t]? with
        | none => rfl
        | some x => rw [hgt] at hu; simp at hu; subst hu; rfl
      rw [if_neg (by simp [Region.wanted, hog, hyn])]
      exact skip hst.1 hst.2
    · exact hst.elim

theorem inl_sound {ops : Array Oper} {o : Oper} {hi : Nat} {s : AStm} {S : St} {K : V → Rows → Prop} {c0 : Cx} {a : Act} {w : World} {K' : Act → World → Prop} {Q : Exit → Act → World → Prop}
    (hc : compStm P ops o hi = some s) (hst : inlW P s S K) (hsat : Sat c0 S a w) (hK : ∀ v rows' a' w', K v rows' → Sat c0 ⟨putV S.fr s.dst v, rows'⟩ a' w' → K' a' w') :
    if Region.wanted o (yielded ops a.tmps) then o.wp P a w K' Q else K' (a.put o.dst undef) w := by
  obtain ⟨g, hg, hc⟩ := Option.bind_eq_some_iff.1 hc
  obtain ⟨ac, hac, rfl⟩ := Option.map_eq_some_iff.1 hc
  obtain ⟨ρ, I, ok, hx, hd, hl, hf⟩ := hsat
  have hopd := opd_rep hf
  have hg0 : ∃ f args, ac = .call f args := by
    unfold inlW at hst
    cases ac with
    | op o => exact hst.elim
    | call f args => exact ⟨f, args, rfl⟩
  obtain ⟨f', args', rfl⟩ := hg0
  have hgo : guardOn g S.fr := hst.1
  replace hst : (match f'.ev S.fr with | .fn (.func g) first cap => InlP P g (first ++ args'.map (Opd.ev S.fr) ++ cap) S.rows K | _ => False) := hst.2
  have hwant : Region.wanted o (yielded ops a.tmps) = true := by
    cases hog : o.guard with
    | none => simp [Region.wanted, hog]
    | some jw =>
      obtain ⟨j, want⟩ := jw
      rw [hog] at hg
      have hg' := hg
      obtain ⟨t, ht, hg2⟩ := Option.map_eq_some_iff.1 hg
      subst hg2
      have hy := yield_of (a := a) hg'
      have hrt := hf t
      have e1 : nth S.fr t = .d (.bool want) := hgo
      rw [e1] at hrt
      have hb := rep_bool hrt
      have hlt : t < a.tmps.size := by
        rcases Nat.lt_or_ge t a.tmps.size with h | h
        · exact h
        · rw [Array.getD_eq_getD_getElem?, Array.getElem?_eq_none h] at hb
          simp [undef] at hb
      have hget : a.tmps[t]? = some (.bool want) := by
        rw [Array.getD_eq_getD_getElem?, Array.getElem?_eq_getElem hlt] at hb
        rw [Array.getElem?_eq_getElem hlt]
        simpa using hb
      rw [hget] at hy
      simp only at hy
      simp [Region.wanted, hog, hy]
  rw [if_pos hwant]
  unfold Oper.wp
  unfold compAct at hac
  split at hac
  · rename_i f args argTypes hop
    obtain ⟨f2, hf', hac⟩ := Option.bind_eq_some_iff.1 hac
    obtain ⟨args2, ha', hac⟩ := Option.map_eq_some_iff.1 hac
    injection hac with e1 e2; subst e1 e2
    have hfr := hopd f f2 hf'
    split at hst
    · rename_i n first cap e1
      rw [e1] at hfr
      obtain ⟨hent, hinl⟩ := hst
      obtain ⟨hal, har⟩ := list_rep (c := ⟨ρ, I, S.rows, w⟩) hopd ha'
      generalize hfv : a.eval f = fv at hfr
      cases hfr with | fn _ fs cps _ _ h1 h2 h3 h4 =>
      obtain ⟨fn, hfn, hnm, hbd⟩ := hent
      have hrun : (execOp a.eval o).run P w = .ok (.enter n (fs ++ args.map a.eval ++ cps)) w := by
        have hnm' : ¬ fn.name = "runtime.NumGoroutine" := by simpa using hnm
        have hbd' : ¬ fn.body = none := fun e => by rw [e] at hbd; simp at hbd
        unfold execOp
        rw [hop]
        simp [resolve, hfv, Deferred.ofValue, invoke, callFunc, hfn, hnm', hbd']
      rw [hrun, Oper.upon_enter]
      have hargs : RepL ⟨ρ, I, S.rows, w⟩ (fs ++ args.map a.eval ++ cps).toList (first ++ args2.map (Opd.ev S.fr) ++ cap) := by
        refine ⟨by simp at hal ⊢; omega, fun j v x hv hx => ?_⟩
        simp only [Array.toList_append] at hx
        rw [List.getElem?_append] at hv hx
        simp only [List.length_append, Array.length_toList] at hv hx
        by_cases c1 : j < fs.size + (args.map a.eval).size
        · have c2 : j < first.length + (args2.map (Opd.ev S.fr)).length := by omega
          rw [if_pos c2] at hv
          rw [if_pos c1, List.getElem?_append] at hx
          rw [List.getElem?_append] at hv
          simp only [Array.length_toList] at hx
          by_cases c3 : j < fs.size
          · rw [if_pos c3] at hx
            rw [if_pos (by omega)] at hv
            exact h3 j v x hv (by simpa using hx)
          · rw [if_neg c3] at hx
            rw [if_neg (by omega)] at hv
            rw [← h1] at hv
            exact har _ v x hv (by simpa using hx)
        · have c2 : ¬ j < first.length + (args2.map (Opd.ev S.fr)).length := by omega
          rw [if_neg c2] at hv
          rw [if_neg c1] at hx
          have c3 : j - (first.length + (args2.map (Opd.ev S.fr)).length) = j - (fs.size + (args.map a.eval).size) := by omega
          rw [c3] at hv
          exact h4 _ v x hv (by simpa using hx)
      refine (hinl ⟨ρ, I, S.rows, w⟩ _ ok rfl hargs).mono ?_
      rintro e w' ⟨u, c', v, rfl, rfl, ok', hx', hrep, hk⟩
      refine hK v c'.rows _ _ hk ?_
      have hfr' : ∀ i, Rep c' (a.tmps.getD i undef) (nth S.fr i) := fun i => (hf i).mono hx' ok
      exact Sat.put (c0 := c0) (S := ⟨S.fr, c'.rows⟩) (a := a) (w := c'.w) (ρ := c'.ρ) (I := c'.I) (rows := c'.rows) ok' (hx.trans hx') hd hl hfr' o.dst (u := u) (v := v) hrep
    · exact hst.elim
  · obtain ⟨ao, _, h⟩ := Option.map_eq_some_iff.1 hac
    cases h

end
end Go.Vx
