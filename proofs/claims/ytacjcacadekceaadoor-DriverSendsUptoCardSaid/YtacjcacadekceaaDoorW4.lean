import Derived.Test.YtacjcacadekceaaDoorW3
set_option linter.unusedSimpArgs false
set_option linter.unusedVariables false
namespace Go.Proofs.Dr
open Go.Vx
/-- a call in the rows of its caller: all that is held is data from then on -/
theorem inl_all {P : Go.Program} {f : FuncId} {vals vals' : List V} {rows : Go.Vx.Rows} {v : V} {K : V → Go.Vx.Rows → Prop} (l : List Nat) (hl : ∀ (h : Nat) (r : RowS), rows[h]? = some r → r.isL → h ∈ l)
    (hs : snapL rows vals vals') (hc : CallP P f vals' v) (hk : K v (setRows rows (l.map fun h => (h, RowS.dead)))) : InlP P f vals rows K := by
  refine ⟨hc.1, fun c args ok hr hargs => ?_⟩
  subst hr
  obtain ⟨okk, hxk⟩ := kill_ok ok l
  obtain ⟨hlen, hsp⟩ := snapL_spec hs
  refine (hc.2 (killC c l).I c.w args (bare_ok okk) ⟨by rw [hargs.1]; exact hlen, fun j v' x h1 h2 => ?_⟩).mono ?_
  · have hj : j < vals.length := by rw [hlen]; exact (List.getElem?_eq_some_iff.1 h1).1
    have h3 : vals[j]? = some vals[j] := List.getElem?_eq_getElem hj
    have := snap_rep ok (hsp j _ _ h3 h1) (hargs.2 j _ x h3 h2)
    refine bare_mono (fun b hb => ?_) this
    rcases hb with hb | ⟨h, hb⟩
    · exact .inl hb
    · obtain ⟨_, _, r, h4, h5⟩ := ok.own h b hb
      exact .inr ⟨h, hl h r h4 h5, hb⟩
  · rintro e w' ⟨u, I', he, ok', hx, hr⟩
    obtain ⟨h1, h2⟩ := back_ok okk hx ok'
    exact ⟨u, _, v, he, rfl, h1, hxk.trans h2, bare_lift hr _ _, hk⟩
/-- a cell that is kept, or that becomes data as its rows are given away -/
inductive Ks (l : List Nat) (rows : Go.Vx.Rows) : V → V → Prop where
  | same (v : V) : Ks l rows v v
  | snap (v v' : V) (h : snapOk rows v) (hg : ∀ g ∈ hAll v, g ∈ l) (he : snapV rows v = v') (ho : oneV v' = true) : Ks l rows v v'
theorem weak_kill1 {b0 : Nat} {fr : List V} {rows rows' : Go.Vx.Rows} {h sz : Nat} {e e' : List V} (l : List Nat) (hr : rows[h]? = some (.live sz [e])) (hn : h ∉ l) (hl : e.length = e'.length)
    (hk : ∀ (j : Nat) (v v' : V), e[j]? = some v → e'[j]? = some v' → Ks l rows v v') (he : (setRows rows (l.map fun h => (h, RowS.dead))).set h (.live sz [e']) = rows') : Weak b0 ⟨fr, rows⟩ ⟨fr, rows'⟩ := by
  subst he
  rintro c0 a w - ⟨ρ, I, ok, hx, hd, hlen, hf⟩
  obtain ⟨ok2, hx2⟩ := kill_ok ok l
  have hr2 : (setRows rows (l.map fun h => (h, RowS.dead)))[h]? = some (.live sz [e]) := by
    have := setRows_kill l rows h
    rw [if_neg (fun x => hn x.1), hr] at this
    exact this
  have hlt := (List.getElem?_eq_some_iff.1 hr2).1
  obtain ⟨c3, hc3⟩ : ∃ c3 : Cx, c3 = ⟨(killC ⟨ρ, I, rows, w⟩ l).ρ, (killC ⟨ρ, I, rows, w⟩ l).I, (setRows rows (l.map fun h => (h, RowS.dead))).set h (.live sz [e']), w⟩ := ⟨_, rfl⟩
  have hrow : ∀ g, g ≠ h → c3.rows[g]? = (killC ⟨ρ, I, rows, w⟩ l).rows[g]? := fun g hg => by
    rw [hc3]; simp only [killC]
    rw [List.getElem?_set_ne (fun x => hg x.symm)]
  have hrowh : c3.rows[h]? = some (.live sz [e']) := by
    rw [hc3]; simp only
    rw [List.getElem?_set_self hlt]
  have hx3 : Ext (killC ⟨ρ, I, rows, w⟩ l) c3 := by
    refine ⟨by rw [hc3]; rfl, by rw [hc3]; rfl, by rw [hc3]; rfl, by rw [hc3]; exact Nat.le_refl _, fun _ _ _ => by rw [hc3]; rfl, fun b hb => by rw [hc3]; exact hb, fun b hb => by rw [hc3] at hb; exact .inl hb, fun g b hb => by rw [hc3] at hb; exact .inl hb, fun g => ?_⟩
    by_cases hg : g = h
    · subst hg
      unfold RowStep
      have e1 : (killC ⟨ρ, I, rows, w⟩ l).rows[g]? = some (.live sz [e]) := hr2
      rw [e1]
      exact .inr ⟨_, hrowh, .inr ⟨rfl, by rw [hc3], fun b arr ty fz _ hb => ⟨arr, fz, by rw [hc3]; exact hb, rfl⟩⟩⟩
    · cases hg2 : (killC ⟨ρ, I, rows, w⟩ l).rows[g]? with
      | none => unfold RowStep; rw [hg2]; trivial
      | some r =>
        exact RowStep.of_eq (hrow g hg) (by rw [hc3]) (fun _ _ => by rw [hc3]; rfl)
  have ok3 : Ok c3 := by
    refine ⟨fun g g' b h1 h2 => ?_, fun g b hb => ?_, fun g b sz' es hb hr' => ?_, fun g sz' es hb hr' => ?_, fun b hb => ?_, .step ok2 hx3 fun g o hr' => ?_⟩
    · rw [hc3] at h1 h2; exact ok2.inj g g' b h1 h2
    · rw [hc3] at hb
      obtain ⟨h1, h2, r, h3, h4⟩ := ok2.own g b hb
      refine ⟨by rw [hc3]; exact h1, by rw [hc3]; exact h2, ?_⟩
      by_cases hg : g = h
      · subst hg; exact ⟨_, hrowh, by
          have e1 : (killC ⟨ρ, I, rows, w⟩ l).rows[g]? = some (.live sz [e]) := hr2
          rw [e1] at h3; injection h3 with h3; subst h3; exact h4⟩
      · exact ⟨r, by rw [hrow g hg]; exact h3, h4⟩
    · have hb' : (killC ⟨ρ, I, rows, w⟩ l).ρ g = some b := by rw [hc3] at hb; exact hb
      by_cases hg : g = h
      · subst hg
        rw [hrowh] at hr'
        injection hr' with hr'; injection hr' with e1 e2; subst e1 e2
        obtain ⟨arr, ty, fz, h1, h2, h3, h4, h5⟩ := ok2.cont g b sz [e] hb' hr2
        have hbρ : ρ g = some b := by
          simp only [killC] at hb'
          rw [if_neg hn] at hb'
          exact hb'
        obtain ⟨arr0, ty0, fz0, k1, k2, k3, k4, k5⟩ := ok.cont g b sz [e] hbρ hr
        have ea : arr0 = arr := by
          have : w.heap[b]? = some (.cells arr ty fz) := h1
          have k1' : w.heap[b]? = some (.cells arr0 ty0 fz0) := k1
          rw [this] at k1'
          injection k1' with k1'
          injection k1' with k1' _ _
          exact k1'.symm
        subst ea
        have hel : e.length = sz := (h3 e (by simp)).1
        refine ⟨arr0, ty, fz, by rw [hc3]; exact h1, h2, fun x hx => ?_, by simpa using h4, fun i x j v' h6 h7 => ?_⟩
        · simp only [List.mem_cons, List.not_mem_nil, or_false] at hx
          subst hx
          refine ⟨by omega, fun v' hv' => ?_⟩
          obtain ⟨j, hj, rfl⟩ := List.getElem_of_mem hv'
          have hje : j < e.length := by omega
          have h8 := hk j _ _ (List.getElem?_eq_getElem hje) (List.getElem?_eq_getElem hj)
          generalize hq : x[j] = y at h8
          generalize hq2 : e[j] = z at h8
          cases h8 with
          | same => exact (h3 e (by simp)).2 _ (hq2 ▸ List.getElem_mem hje)
          | snap _ _ _ _ ho => exact ho
        · cases i with
          | succ i => simp at h6
          | zero =>
            simp at h6; subst h6
            have hj := (List.getElem?_eq_some_iff.1 h7).1
            have hje : j < e.length := by omega
            obtain ⟨y, h8, h9⟩ := h5 0 e j _ (by simp) (List.getElem?_eq_getElem hje)
            obtain ⟨y2, m8, m9⟩ := k5 0 e j _ (by simp) (List.getElem?_eq_getElem hje)
            rw [h8] at m8; injection m8 with m8; subst m8
            refine ⟨y, h8, ?_⟩
            have hK := hk j _ _ (List.getElem?_eq_getElem hje) h7
            generalize e[j] = z at hK h9 m9
            cases hK with
            | same => exact h9.mono hx3 ok2
            | snap _ hsn hg hev ho =>
              subst hev
              have := snapV_repJ ok (J := (killC ⟨ρ, I, rows, w⟩ l).I) (fun b hb => .inl hb) m9 hsn (fun g hgm b hgb => .inr ⟨g, hg g hgm, hgb⟩)
              rw [hc3]
              exact bare_lift this _ _
      · rw [hrow g hg] at hr'
        obtain ⟨arr, ty, fz, h1, h2, h3⟩ := ok2.cont g b sz' es hb' hr'
        exact ⟨arr, ty, fz, by rw [hc3]; exact h1, h2, h3.mono hx3 ok2⟩
    · have hb' : (killC ⟨ρ, I, rows, w⟩ l).ρ g = none := by rw [hc3] at hb; exact hb
      by_cases hg : g = h
      · subst hg
        have := ok2.virt g sz [e] hb' hr2
        cases this
      · rw [hrow g hg] at hr'
        exact ok2.virt g sz' es hb' hr'
    · rw [hc3] at hb ⊢; exact ok2.imm b hb
    · by_cases hg : g = h
      · subst hg; rw [hrowh] at hr'; injection hr' with hr'; cases hr'
      · rw [hrow g hg] at hr'
        exact ⟨hr', by rw [hc3], fun _ _ => by rw [hc3]; rfl⟩
  have hx4 := hx2.trans hx3
  subst hc3
  exact ⟨_, _, ok3, hx.trans hx4, hd, hlen, fun i => (hf i).mono hx4 ok⟩
end Go.Proofs.Dr

namespace Go.Proofs.Dr
open Go.Vx
def awL : List Slo := [⟨true, ([], []), []⟩, ⟨false, ([[97]], [3]), []⟩]
def awC : Chn := ⟨[118], [114], [[97]]⟩
theorem aw_ok : okLs awL := by
  refine ⟨by rw [rchN]; decide, fun s hs => ?_⟩
  simp only [awL, List.mem_cons, List.not_mem_nil, or_false] at hs
  rcases hs with rfl | rfl
  · refine ⟨by rw [rchN]; decide, by rw [rchN]; decide, fun x hx => by cases hx⟩
  · refine ⟨by rw [rchN]; decide, by rw [rchN]; decide, fun x hx => ?_⟩
    simp only [List.mem_cons, List.not_mem_nil, or_false] at hx
    subst hx
    rw [rchN]; decide
theorem aw1 : drvS ⟨awL, 0, 0⟩ awC = [([118], 0), ([97], 0)] := by kernel_rfl
theorem aw2 : stpS ⟨awL, 0, 0⟩ true = (⟨awL, 1, 0⟩, false) := by kernel_rfl
theorem aw3 : drvS ⟨awL, 1, 0⟩ awC = [([118], 1), ([97], 3)] := by kernel_rfl
theorem aw4 : stpS ⟨awL, 1, 0⟩ false = (⟨awL, 1, 1⟩, false) := by kernel_rfl
theorem aw5 : stpS ⟨awL, 1, 1⟩ true = (⟨awL, 2, 0⟩, true) := by kernel_rfl
theorem aw6 : donS ⟨awL, 2, 0⟩ = true := by kernel_rfl
theorem aw7 : sntS ⟨awL, 2, 0⟩ = [([[97]], [3])] := by kernel_rfl
theorem t18 : CallP Tryd.prog 18 [] (.d (.bool true)) := by
  refine go18 (AC.at (AC.look [false, false, false, false, false, false, true]) [1, 0] (AC.at AC.wk [1, 1, 1] ac18)) rfl ?_
  simp only [vx, vz, Nat.reduceAdd, Nat.reduceSub, Nat.reduceMul, Nat.reduceLeDiff, Nat.reduceLT, Nat.reduceEqDiff, Nat.reduceBEq, Int.reduceToNat, Int.reduceNeg, Int.reduceEq, Int.reduceNe, Int.reduceLE, Int.reduceLT, reduceCtorEq, ↓reduceIte, ac18, AC.at, AC.look]
  refine call_i (inl_all (vals' := [slL awL]) [0, 1, 2] (fun h r hr hl => ?_) ?_ (t8 awL aw_ok) ?_)
  · match h, hr with
    | 0, _ => simp
    | 1, _ => simp
    | 2, _ => simp
    | 3, hr => simp at hr; subst hr; exact hl.elim
  · refine ⟨?_, trivial⟩
    refine sn_oslZ rfl rfl (by decide) ?_
    refine ⟨rfl, ⟨.d _, .nils 1, .nils 1, .d _, trivial⟩, rfl, ⟨.d _, sn_all (es := [sD [97]]) rfl rfl (by simp [sD]), sn_all (es := [iD 3]) rfl rfl (by simp [iD]), .d _, trivial⟩, trivial⟩
  simp only [vx, vz, Nat.reduceAdd, Nat.reduceSub, Nat.reduceMul, Nat.reduceLeDiff, Nat.reduceLT, Nat.reduceEqDiff, Nat.reduceBEq, Int.reduceToNat, Int.reduceNeg, Int.reduceEq, Int.reduceNe, Int.reduceLE, Int.reduceLT, reduceCtorEq, ↓reduceIte]
  refine wk_in ⟨mkF 84 [(0, .d (.bool false)), (1, .optr 3 3 1 0 0), (2, .optr 3 5 1 0 0)], [.dead, .dead, .dead, .live 3 [[slL awL, .d (.int .i64 0), .d (.int .i64 0)]], .dead, .live 3 [[.d (.str [118]), .d (.str [114]), .d (.sl 1 [sD [97]])]]]⟩ (Weak.trans (weak_kill1 (h := 5) (sz := 3) (e := [.d (.str [118]), .d (.str [114]), .osl 1 4 1 0 1]) (e' := [.d (.str [118]), .d (.str [114]), .d (.sl 1 [sD [97]])]) [4] rfl (by decide) rfl (fun j v v' h1 h2 => ?_) rfl) (weak_any (by simp only [vx, vz, Nat.reduceAdd, Nat.reduceSub, Nat.reduceMul, Nat.reduceLeDiff, Nat.reduceLT, Nat.reduceEqDiff, Nat.reduceBEq, Int.reduceToNat, Int.reduceNeg, Int.reduceEq, Int.reduceNe, Int.reduceLE, Int.reduceLT, reduceCtorEq, ↓reduceIte]; try trivial))) ?_
  · match j, h1, h2 with
    | 0, h1, h2 => simp at h1 h2; subst h1 h2; exact .same _
    | 1, h1, h2 => simp at h1 h2; subst h1 h2; exact .same _
    | 2, h1, h2 =>
      simp at h1 h2; subst h1 h2
      exact .snap _ _ (snap_row (es := [sD [97]]) rfl rfl).1 (by simp [hAll, hOf1]) (snap_row (es := [sD [97]]) rfl rfl).2 rfl
    | j + 3, h1, h2 => simp at h1
  simp only [vx, vz, Nat.reduceAdd, Nat.reduceSub, Nat.reduceMul, Nat.reduceLeDiff, Nat.reduceLT, Nat.reduceEqDiff, Nat.reduceBEq, Int.reduceToNat, Int.reduceNeg, Int.reduceEq, Int.reduceNe, Int.reduceLE, Int.reduceLT, reduceCtorEq, ↓reduceIte]
  refine call_p rfl (t20 ⟨awL, 0, 0⟩ awC aw_ok (by decide)) ?_
  simp only [vx, vz, Nat.reduceAdd, Nat.reduceSub, Nat.reduceMul, Nat.reduceLeDiff, Nat.reduceLT, Nat.reduceEqDiff, Nat.reduceBEq, Int.reduceToNat, Int.reduceNeg, Int.reduceEq, Int.reduceNe, Int.reduceLE, Int.reduceLT, reduceCtorEq, ↓reduceIte]
  rw [aw1]
  refine call_p rfl (t22 ⟨awL, 0, 0⟩ true aw_ok) ?_
  simp only [vx, vz, Nat.reduceAdd, Nat.reduceSub, Nat.reduceMul, Nat.reduceLeDiff, Nat.reduceLT, Nat.reduceEqDiff, Nat.reduceBEq, Int.reduceToNat, Int.reduceNeg, Int.reduceEq, Int.reduceNe, Int.reduceLE, Int.reduceLT, reduceCtorEq, ↓reduceIte]
  rw [aw2]
  simp only [vx, vz, Nat.reduceAdd, Nat.reduceSub, Nat.reduceMul, Nat.reduceLeDiff, Nat.reduceLT, Nat.reduceEqDiff, Nat.reduceBEq, Int.reduceToNat, Int.reduceNeg, Int.reduceEq, Int.reduceNe, Int.reduceLE, Int.reduceLT, reduceCtorEq, ↓reduceIte]
  refine call_p rfl (t20 ⟨awL, 1, 0⟩ awC aw_ok (by decide)) ?_
  simp only [vx, vz, Nat.reduceAdd, Nat.reduceSub, Nat.reduceMul, Nat.reduceLeDiff, Nat.reduceLT, Nat.reduceEqDiff, Nat.reduceBEq, Int.reduceToNat, Int.reduceNeg, Int.reduceEq, Int.reduceNe, Int.reduceLE, Int.reduceLT, reduceCtorEq, ↓reduceIte]
  rw [aw3]
  refine call_p rfl (t22 ⟨awL, 1, 0⟩ false aw_ok) ?_
  simp only [vx, vz, Nat.reduceAdd, Nat.reduceSub, Nat.reduceMul, Nat.reduceLeDiff, Nat.reduceLT, Nat.reduceEqDiff, Nat.reduceBEq, Int.reduceToNat, Int.reduceNeg, Int.reduceEq, Int.reduceNe, Int.reduceLE, Int.reduceLT, reduceCtorEq, ↓reduceIte]
  rw [aw4]
  simp only [vx, vz, Nat.reduceAdd, Nat.reduceSub, Nat.reduceMul, Nat.reduceLeDiff, Nat.reduceLT, Nat.reduceEqDiff, Nat.reduceBEq, Int.reduceToNat, Int.reduceNeg, Int.reduceEq, Int.reduceNe, Int.reduceLE, Int.reduceLT, reduceCtorEq, ↓reduceIte]
  refine call_p rfl (t22 ⟨awL, 1, 1⟩ true aw_ok) ?_
  simp only [vx, vz, Nat.reduceAdd, Nat.reduceSub, Nat.reduceMul, Nat.reduceLeDiff, Nat.reduceLT, Nat.reduceEqDiff, Nat.reduceBEq, Int.reduceToNat, Int.reduceNeg, Int.reduceEq, Int.reduceNe, Int.reduceLE, Int.reduceLT, reduceCtorEq, ↓reduceIte]
  rw [aw5]
  simp only [vx, vz, Nat.reduceAdd, Nat.reduceSub, Nat.reduceMul, Nat.reduceLeDiff, Nat.reduceLT, Nat.reduceEqDiff, Nat.reduceBEq, Int.reduceToNat, Int.reduceNeg, Int.reduceEq, Int.reduceNe, Int.reduceLE, Int.reduceLT, reduceCtorEq, ↓reduceIte]
  refine call_s (v := .d (.bool true)) (fun y hy => ?_) rfl ?_ ?_
  · simp only [List.nil_append, List.append_nil, List.mem_cons, List.not_mem_nil, or_false] at hy
    rcases hy with rfl | rfl
    · simp [snapOk, snapCOk, noH, noH1]
    · exact (snap_row (es := [([118], 0), ([97], 0)].map sgD) rfl rfl).1
  · simp only [List.nil_append, List.append_nil, List.map_cons, List.map_nil]
    exact t19 [([118], 0), ([97], 0)] (by decide)
  simp only [vx, vz, Nat.reduceAdd, Nat.reduceSub, Nat.reduceMul, Nat.reduceLeDiff, Nat.reduceLT, Nat.reduceEqDiff, Nat.reduceBEq, Int.reduceToNat, Int.reduceNeg, Int.reduceEq, Int.reduceNe, Int.reduceLE, Int.reduceLT, reduceCtorEq, ↓reduceIte]
  refine call_s (v := .d (.bool true)) (fun y hy => ?_) rfl ?_ ?_
  · simp only [List.nil_append, List.append_nil, List.mem_cons, List.not_mem_nil, or_false] at hy
    rcases hy with rfl | rfl
    · simp [snapOk, snapCOk, noH, noH1]
    · exact (snap_row (es := [([118], 1), ([97], 3)].map sgD) rfl rfl).1
  · simp only [List.nil_append, List.append_nil, List.map_cons, List.map_nil]
    exact t19 [([118], 1), ([97], 3)] (by decide)
  simp only [vx, vz, Nat.reduceAdd, Nat.reduceSub, Nat.reduceMul, Nat.reduceLeDiff, Nat.reduceLT, Nat.reduceEqDiff, Nat.reduceBEq, Int.reduceToNat, Int.reduceNeg, Int.reduceEq, Int.reduceNe, Int.reduceLE, Int.reduceLT, reduceCtorEq, ↓reduceIte]
  refine call_p rfl (t13 ⟨awL, 2, 0⟩) ?_
  simp only [vx, vz, Nat.reduceAdd, Nat.reduceSub, Nat.reduceMul, Nat.reduceLeDiff, Nat.reduceLT, Nat.reduceEqDiff, Nat.reduceBEq, Int.reduceToNat, Int.reduceNeg, Int.reduceEq, Int.reduceNe, Int.reduceLE, Int.reduceLT, reduceCtorEq, ↓reduceIte]
  rw [aw6]
  simp only [vx, vz, Nat.reduceAdd, Nat.reduceSub, Nat.reduceMul, Nat.reduceLeDiff, Nat.reduceLT, Nat.reduceEqDiff, Nat.reduceBEq, Int.reduceToNat, Int.reduceNeg, Int.reduceEq, Int.reduceNe, Int.reduceLE, Int.reduceLT, reduceCtorEq, ↓reduceIte]
  refine call_p rfl (t16 ⟨awL, 2, 0⟩ aw_ok) ?_
  simp only [vx, vz, Nat.reduceAdd, Nat.reduceSub, Nat.reduceMul, Nat.reduceLeDiff, Nat.reduceLT, Nat.reduceEqDiff, Nat.reduceBEq, Int.reduceToNat, Int.reduceNeg, Int.reduceEq, Int.reduceNe, Int.reduceLE, Int.reduceLT, reduceCtorEq, ↓reduceIte]
  rw [aw7]
  simp only [vx, vz, Nat.reduceAdd, Nat.reduceSub, Nat.reduceMul, Nat.reduceLeDiff, Nat.reduceLT, Nat.reduceEqDiff, Nat.reduceBEq, Int.reduceToNat, Int.reduceNeg, Int.reduceEq, Int.reduceNe, Int.reduceLE, Int.reduceLT, reduceCtorEq, ↓reduceIte]
end Go.Proofs.Dr

namespace Go.Proofs.Dr
open Go.Vx
theorem sntL_ok {l : List Slo} (h : okLs l) : okL (sntL l) := by
  refine ⟨?_, fun t ht => ?_⟩
  · have := okLs_len h
    have h2 : (sntL l).length ≤ l.length := by
      unfold sntL; rw [List.length_map]; exact List.length_filter_le ..
    rw [mxL]; omega
  · unfold sntL at ht
    obtain ⟨s, hs, rfl⟩ := List.mem_map.1 ht
    have hs2 := (List.mem_filter.1 hs).1
    obtain ⟨h1, h2, _⟩ := okT_X (h.2 s hs2)
    exact ⟨h1, h2⟩
theorem okLs_take {l : List Slo} (h : okLs l) (n : Nat) : okLs (l.take n) := by
  refine ⟨?_, fun s hs => h.2 s (List.mem_of_mem_take hs)⟩
  have h1 := h.1
  have : (l.take n).length ≤ l.length := List.length_take_le' ..
  omega
theorem snt_ok {d : Dv} (h : okLs d.sl) : okL (sntS d) := by
  unfold sntS
  split
  · exact sntL_ok (okLs_take h _)
  · exact ⟨by rw [mxL]; simp, fun t ht => by cases ht⟩
theorem stp_sl (d : Dv) (r : Bool) : (stpS d r).1.sl = d.sl := by
  unfold stpS; repeat (first | rfl | split)
theorem l3 (l : List Slo) (d : Dv) (okl : okLs l) (ok : okLs d.sl) : CallP Tryd.prog 3 [slL l, dvV d] (.d (.bool true)) := by
  refine go3 ac3 rfl ?_
  simp only [vx, vz, Nat.reduceAdd, Nat.reduceSub, Nat.reduceMul, Nat.reduceLeDiff, Nat.reduceLT, Nat.reduceEqDiff, Nat.reduceBEq, Int.reduceToNat, Int.reduceNeg, Int.reduceEq, Int.reduceNe, Int.reduceLE, Int.reduceLT, reduceCtorEq, ↓reduceIte, ac3]
  refine call_p rfl (t8 l okl) ?_
  simp only [vx, vz, Nat.reduceAdd, Nat.reduceSub, Nat.reduceMul, Nat.reduceLeDiff, Nat.reduceLT, Nat.reduceEqDiff, Nat.reduceBEq, Int.reduceToNat, Int.reduceNeg, Int.reduceEq, Int.reduceNe, Int.reduceLE, Int.reduceLT, reduceCtorEq, ↓reduceIte]
  refine c_quiet rfl ?_
  simp only [vx, vz, Nat.reduceAdd, Nat.reduceSub, Nat.reduceMul, Nat.reduceLeDiff, Nat.reduceLT, Nat.reduceEqDiff, Nat.reduceBEq, Int.reduceToNat, Int.reduceNeg, Int.reduceEq, Int.reduceNe, Int.reduceLE, Int.reduceLT, reduceCtorEq, ↓reduceIte]
  refine call_p rfl (t10 l okl) ?_
  simp only [vx, vz, Nat.reduceAdd, Nat.reduceSub, Nat.reduceMul, Nat.reduceLeDiff, Nat.reduceLT, Nat.reduceEqDiff, Nat.reduceBEq, Int.reduceToNat, Int.reduceNeg, Int.reduceEq, Int.reduceNe, Int.reduceLE, Int.reduceLT, reduceCtorEq, ↓reduceIte]
  refine call_p rfl (t9 ⟨l, 0, 0⟩ okl) ?_
  simp only [vx, vz, Nat.reduceAdd, Nat.reduceSub, Nat.reduceMul, Nat.reduceLeDiff, Nat.reduceLT, Nat.reduceEqDiff, Nat.reduceBEq, Int.reduceToNat, Int.reduceNeg, Int.reduceEq, Int.reduceNe, Int.reduceLE, Int.reduceLT, reduceCtorEq, ↓reduceIte]
  refine call_p rfl (t11 d ok) ?_
  simp only [vx, vz, Nat.reduceAdd, Nat.reduceSub, Nat.reduceMul, Nat.reduceLeDiff, Nat.reduceLT, Nat.reduceEqDiff, Nat.reduceBEq, Int.reduceToNat, Int.reduceNeg, Int.reduceEq, Int.reduceNe, Int.reduceLE, Int.reduceLT, reduceCtorEq, ↓reduceIte]
  refine call_p rfl (t12 d ok) ?_
  simp only [vx, vz, Nat.reduceAdd, Nat.reduceSub, Nat.reduceMul, Nat.reduceLeDiff, Nat.reduceLT, Nat.reduceEqDiff, Nat.reduceBEq, Int.reduceToNat, Int.reduceNeg, Int.reduceEq, Int.reduceNe, Int.reduceLE, Int.reduceLT, reduceCtorEq, ↓reduceIte]
  refine call_p rfl (t11 ⟨l, 0, 0⟩ okl) ?_
  simp only [vx, vz, Nat.reduceAdd, Nat.reduceSub, Nat.reduceMul, Nat.reduceLeDiff, Nat.reduceLT, Nat.reduceEqDiff, Nat.reduceBEq, Int.reduceToNat, Int.reduceNeg, Int.reduceEq, Int.reduceNe, Int.reduceLE, Int.reduceLT, reduceCtorEq, ↓reduceIte]
  refine call_p rfl (t12 ⟨l, 0, 0⟩ okl) ?_
  simp only [vx, vz, Nat.reduceAdd, Nat.reduceSub, Nat.reduceMul, Nat.reduceLeDiff, Nat.reduceLT, Nat.reduceEqDiff, Nat.reduceBEq, Int.reduceToNat, Int.reduceNeg, Int.reduceEq, Int.reduceNe, Int.reduceLE, Int.reduceLT, reduceCtorEq, ↓reduceIte]
  refine call_p rfl (t13 d) ?_
  simp only [vx, vz, Nat.reduceAdd, Nat.reduceSub, Nat.reduceMul, Nat.reduceLeDiff, Nat.reduceLT, Nat.reduceEqDiff, Nat.reduceBEq, Int.reduceToNat, Int.reduceNeg, Int.reduceEq, Int.reduceNe, Int.reduceLE, Int.reduceLT, reduceCtorEq, ↓reduceIte]
  refine call_p rfl (t14 d) ?_
  simp only [vx, vz, Nat.reduceAdd, Nat.reduceSub, Nat.reduceMul, Nat.reduceLeDiff, Nat.reduceLT, Nat.reduceEqDiff, Nat.reduceBEq, Int.reduceToNat, Int.reduceNeg, Int.reduceEq, Int.reduceNe, Int.reduceLE, Int.reduceLT, reduceCtorEq, ↓reduceIte]
  refine call_p rfl (t16 d ok) ?_
  simp only [vx, vz, Nat.reduceAdd, Nat.reduceSub, Nat.reduceMul, Nat.reduceLeDiff, Nat.reduceLT, Nat.reduceEqDiff, Nat.reduceBEq, Int.reduceToNat, Int.reduceNeg, Int.reduceEq, Int.reduceNe, Int.reduceLE, Int.reduceLT, reduceCtorEq, ↓reduceIte]
  refine call_p rfl (t17 d ok) ?_
  simp only [vx, vz, Nat.reduceAdd, Nat.reduceSub, Nat.reduceMul, Nat.reduceLeDiff, Nat.reduceLT, Nat.reduceEqDiff, Nat.reduceBEq, Int.reduceToNat, Int.reduceNeg, Int.reduceEq, Int.reduceNe, Int.reduceLE, Int.reduceLT, reduceCtorEq, ↓reduceIte]
  refine call_p rfl (t15 (sntS d) (snt_ok ok)) ?_
  simp only [vx, vz, Nat.reduceAdd, Nat.reduceSub, Nat.reduceMul, Nat.reduceLeDiff, Nat.reduceLT, Nat.reduceEqDiff, Nat.reduceBEq, Int.reduceToNat, Int.reduceNeg, Int.reduceEq, Int.reduceNe, Int.reduceLE, Int.reduceLT, reduceCtorEq, ↓reduceIte]
  refine call_p rfl (t18) ?_
  simp only [vx, vz, Nat.reduceAdd, Nat.reduceSub, Nat.reduceMul, Nat.reduceLeDiff, Nat.reduceLT, Nat.reduceEqDiff, Nat.reduceBEq, Int.reduceToNat, Int.reduceNeg, Int.reduceEq, Int.reduceNe, Int.reduceLE, Int.reduceLT, reduceCtorEq, ↓reduceIte]
theorem l5 (d : Dv) (r : Bool) (ok : okLs d.sl) : CallP Tryd.prog 5 [dvV d, .d (.bool r)] (.d (.bool true)) := by
  refine go5 ac5 rfl ?_
  simp only [vx, vz, Nat.reduceAdd, Nat.reduceSub, Nat.reduceMul, Nat.reduceLeDiff, Nat.reduceLT, Nat.reduceEqDiff, Nat.reduceBEq, Int.reduceToNat, Int.reduceNeg, Int.reduceEq, Int.reduceNe, Int.reduceLE, Int.reduceLT, reduceCtorEq, ↓reduceIte, ac5]
  refine call_p rfl (t22 d r ok) ?_
  simp only [vx, vz, Nat.reduceAdd, Nat.reduceSub, Nat.reduceMul, Nat.reduceLeDiff, Nat.reduceLT, Nat.reduceEqDiff, Nat.reduceBEq, Int.reduceToNat, Int.reduceNeg, Int.reduceEq, Int.reduceNe, Int.reduceLE, Int.reduceLT, reduceCtorEq, ↓reduceIte]
  refine call_p rfl (t23 d r ok) ?_
  simp only [vx, vz, Nat.reduceAdd, Nat.reduceSub, Nat.reduceMul, Nat.reduceLeDiff, Nat.reduceLT, Nat.reduceEqDiff, Nat.reduceBEq, Int.reduceToNat, Int.reduceNeg, Int.reduceEq, Int.reduceNe, Int.reduceLE, Int.reduceLT, reduceCtorEq, ↓reduceIte]
  refine call_p rfl (t9 (stpS d r).1 (by rw [stp_sl]; exact ok)) ?_
  simp only [vx, vz, Nat.reduceAdd, Nat.reduceSub, Nat.reduceMul, Nat.reduceLeDiff, Nat.reduceLT, Nat.reduceEqDiff, Nat.reduceBEq, Int.reduceToNat, Int.reduceNeg, Int.reduceEq, Int.reduceNe, Int.reduceLE, Int.reduceLT, reduceCtorEq, ↓reduceIte]
  refine call_p rfl (t18) ?_
  simp only [vx, vz, Nat.reduceAdd, Nat.reduceSub, Nat.reduceMul, Nat.reduceLeDiff, Nat.reduceLT, Nat.reduceEqDiff, Nat.reduceBEq, Int.reduceToNat, Int.reduceNeg, Int.reduceEq, Int.reduceNe, Int.reduceLE, Int.reduceLT, reduceCtorEq, ↓reduceIte]
end Go.Proofs.Dr

namespace Go.Proofs.Dr
open Go.Vx
theorem vld_of {d : Dv} (h1 : 0 ≤ d.at_) (h2 : d.at_ ≤ d.sl.length) (h3 : 0 ≤ d.wt) (h4 : d.wt ≤ 1099511627776) (h5 : 0 < d.wt → busS d = true) (h6 : d.sl.any badS = false) : vldD d = true := by
  unfold vldD
  rw [h6, decide_eq_false (by omega), decide_eq_false (by omega), decide_eq_false (by omega), decide_eq_false (by omega)]
  by_cases h : 0 < d.wt
  · rw [h5 h]; simp
  · rw [decide_eq_false h]; rfl
theorem don_in {d : Dv} (h : donS d = false) : 0 ≤ d.at_ ∧ d.at_ < d.sl.length := by
  unfold donS at h
  simp only [Bool.or_eq_false_iff, decide_eq_false_iff_not] at h
  omega
theorem bus_at {a b : Dv} (h : a.sl = b.sl) (h2 : a.at_ = b.at_) : busS a = busS b := by
  unfold busS nowS; rw [h, h2]
theorem wait_in {w : Int} (h : 0 ≤ w) : 0 ≤ waitI w ∧ waitI w ≤ 1099511627776 := by
  unfold waitI; split <;> omega
theorem stp_valid {d : Dv} (r : Bool) (h : vldD d = true) : vldD (stpS d r).1 = true := by
  obtain ⟨h1, h2, h3, h4, h5, h6⟩ := vld_in h
  unfold stpS
  split
  · exact h
  · rename_i hn
    have hs : (nowS d).isSome = true := by
      cases hx : (nowS d).isSome with
      | true => rfl
      | false => exact absurd (.inl hx) hn
    rw [now_some] at hs
    simp only [Bool.and_eq_true, decide_eq_true_eq] at hs
    split
    · exact vld_of (by simp only; omega) (by simp only; omega) (by simp) (by simp) (by simp) h6
    · rename_i hb
      split
      · exact vld_of (by simp only; omega) (by simp only; omega) (by simp) (by simp) (by simp) h6
      · have := wait_in h3
        refine vld_of h1 h2 this.1 this.2 (fun _ => ?_) h6
        rw [bus_at (a := ⟨d.sl, d.at_, waitI d.wt⟩) (b := d) rfl rfl]
        exact by simpa using hb
theorem stp_no {d : Dv} {r : Bool} (h : vldD d = false ∨ donS d = true) : stpS d r = (d, false) := by
  unfold stpS
  rw [if_pos]
  rcases h with h | h
  · exact .inr h
  · left
    rw [now_some]
    unfold donS at h
    simp only [Bool.or_eq_true, decide_eq_true_eq] at h
    rcases h with h | h
    · rw [decide_eq_false (p := d.at_ < _) (by omega), Bool.and_false]
    · rw [decide_eq_false (by omega), Bool.false_and]
/-- a step within -/
theorem stp_yes {d : Dv} {r : Bool} (h : vldD d = true) (hd : donS d = false) : ∃ (i : Nat) (s : Slo), d.at_ = i ∧ d.sl[i]? = some s ∧ busS d = !s.idl ∧
    stpS d r = if s.idl = true then (⟨d.sl, d.at_ + 1, 0⟩, false) else if r = true then (⟨d.sl, d.at_ + 1, 0⟩, true) else (⟨d.sl, d.at_, waitI d.wt⟩, false) := by
  obtain ⟨h1, h2⟩ := don_in hd
  obtain ⟨i, hi⟩ : ∃ i : Nat, d.at_ = i := ⟨d.at_.toNat, by omega⟩
  obtain ⟨s, hs⟩ := get_ex (l := d.sl) (i := i) (by omega)
  have hn := now_at hi hs
  have hb : busS d = !s.idl := by unfold busS; rw [hn]
  refine ⟨i, s, hi, hs, hb, ?_⟩
  unfold stpS
  rw [hn, if_neg (by simp [h]), hb]
  cases s.idl <;> simp
theorem l7 (d : Dv) (r : Bool) (ok : okLs d.sl) : CallP Tryd.prog 7 [dvV d, .d (.bool r)] (.d (.bool true)) := by
  have hll := okLs_len ok
  refine go7 ac7 rfl ?_
  simp only [vx, vz, Nat.reduceAdd, Nat.reduceSub, Nat.reduceMul, Nat.reduceLeDiff, Nat.reduceLT, Nat.reduceEqDiff, Nat.reduceBEq, Int.reduceToNat, Int.reduceNeg, Int.reduceEq, Int.reduceNe, Int.reduceLE, Int.reduceLT, reduceCtorEq, ↓reduceIte, ac7]
  refine call_p rfl (t22 d r ok) ?_
  simp only [vx, vz, Nat.reduceAdd, Nat.reduceSub, Nat.reduceMul, Nat.reduceLeDiff, Nat.reduceLT, Nat.reduceEqDiff, Nat.reduceBEq, Int.reduceToNat, Int.reduceNeg, Int.reduceEq, Int.reduceNe, Int.reduceLE, Int.reduceLT, reduceCtorEq, ↓reduceIte]
  refine call_p rfl (t12 d ok) ?_
  simp only [vx, vz, Nat.reduceAdd, Nat.reduceSub, Nat.reduceMul, Nat.reduceLeDiff, Nat.reduceLT, Nat.reduceEqDiff, Nat.reduceBEq, Int.reduceToNat, Int.reduceNeg, Int.reduceEq, Int.reduceNe, Int.reduceLE, Int.reduceLT, reduceCtorEq, ↓reduceIte]
  cases hv : vldD d with
  | false =>
    rw [stp_no (.inl hv)]
    simp only [vx, vz, Nat.reduceAdd, Nat.reduceSub, Nat.reduceMul, Nat.reduceLeDiff, Nat.reduceLT, Nat.reduceEqDiff, Nat.reduceBEq, Int.reduceToNat, Int.reduceNeg, Int.reduceEq, Int.reduceNe, Int.reduceLE, Int.reduceLT, reduceCtorEq, ↓reduceIte]
    refine call_p rfl (t9 d ok) ?_
    simp only [vx, vz, Nat.reduceAdd, Nat.reduceSub, Nat.reduceMul, Nat.reduceLeDiff, Nat.reduceLT, Nat.reduceEqDiff, Nat.reduceBEq, Int.reduceToNat, Int.reduceNeg, Int.reduceEq, Int.reduceNe, Int.reduceLE, Int.reduceLT, reduceCtorEq, ↓reduceIte]
    refine call_p rfl (t18) ?_
    simp only [vx, vz, Nat.reduceAdd, Nat.reduceSub, Nat.reduceMul, Nat.reduceLeDiff, Nat.reduceLT, Nat.reduceEqDiff, Nat.reduceBEq, Int.reduceToNat, Int.reduceNeg, Int.reduceEq, Int.reduceNe, Int.reduceLE, Int.reduceLT, reduceCtorEq, ↓reduceIte]
  | true =>
    simp only [vx, vz, Nat.reduceAdd, Nat.reduceSub, Nat.reduceMul, Nat.reduceLeDiff, Nat.reduceLT, Nat.reduceEqDiff, Nat.reduceBEq, Int.reduceToNat, Int.reduceNeg, Int.reduceEq, Int.reduceNe, Int.reduceLE, Int.reduceLT, reduceCtorEq, ↓reduceIte]
    refine call_p rfl (t14 d) ?_
    simp only [vx, vz, Nat.reduceAdd, Nat.reduceSub, Nat.reduceMul, Nat.reduceLeDiff, Nat.reduceLT, Nat.reduceEqDiff, Nat.reduceBEq, Int.reduceToNat, Int.reduceNeg, Int.reduceEq, Int.reduceNe, Int.reduceLE, Int.reduceLT, reduceCtorEq, ↓reduceIte]
    cases hd : donS d with
    | true =>
      rw [stp_no (.inr hd)]
      simp only [vx, vz, Nat.reduceAdd, Nat.reduceSub, Nat.reduceMul, Nat.reduceLeDiff, Nat.reduceLT, Nat.reduceEqDiff, Nat.reduceBEq, Int.reduceToNat, Int.reduceNeg, Int.reduceEq, Int.reduceNe, Int.reduceLE, Int.reduceLT, reduceCtorEq, ↓reduceIte]
      refine call_p rfl (t9 d ok) ?_
      simp only [vx, vz, Nat.reduceAdd, Nat.reduceSub, Nat.reduceMul, Nat.reduceLeDiff, Nat.reduceLT, Nat.reduceEqDiff, Nat.reduceBEq, Int.reduceToNat, Int.reduceNeg, Int.reduceEq, Int.reduceNe, Int.reduceLE, Int.reduceLT, reduceCtorEq, ↓reduceIte]
      refine call_p rfl (t18) ?_
      simp only [vx, vz, Nat.reduceAdd, Nat.reduceSub, Nat.reduceMul, Nat.reduceLeDiff, Nat.reduceLT, Nat.reduceEqDiff, Nat.reduceBEq, Int.reduceToNat, Int.reduceNeg, Int.reduceEq, Int.reduceNe, Int.reduceLE, Int.reduceLT, reduceCtorEq, ↓reduceIte]
    | false =>
      have hvn := stp_valid r hv
      have hok : okLs (stpS d r).1.sl := by rw [stp_sl]; exact ok
      simp only [vx, vz, Nat.reduceAdd, Nat.reduceSub, Nat.reduceMul, Nat.reduceLeDiff, Nat.reduceLT, Nat.reduceEqDiff, Nat.reduceBEq, Int.reduceToNat, Int.reduceNeg, Int.reduceEq, Int.reduceNe, Int.reduceLE, Int.reduceLT, reduceCtorEq, ↓reduceIte]
      refine call_p rfl (t12 (stpS d r).1 hok) ?_
      simp only [vx, vz, Nat.reduceAdd, Nat.reduceSub, Nat.reduceMul, Nat.reduceLeDiff, Nat.reduceLT, Nat.reduceEqDiff, Nat.reduceBEq, Int.reduceToNat, Int.reduceNeg, Int.reduceEq, Int.reduceNe, Int.reduceLE, Int.reduceLT, reduceCtorEq, ↓reduceIte]
      rw [hvn]
      obtain ⟨i, s, hi, hs, hb, he⟩ := stp_yes (r := r) hv hd
      have hil := (List.getElem?_eq_some_iff.1 hs).1
      rw [he]
      have e1 : decide ((i : Int) ≤ i + 1) = true := decide_eq_true (by omega)
      have e2 : decide ((i : Int) ≤ i) = true := decide_eq_true (by omega)
      have e3 : IntKind.i64.wrap ((i : Int) + 1) = i + 1 := wr_i64 (by omega) (by omega)
      have e4 : decide ((i : Int) + 1 ≤ i + 1) = true := decide_eq_true (by omega)
      cases hid : s.idl with
      | true =>
        simp only [vx, vz, Nat.reduceAdd, Nat.reduceSub, Nat.reduceMul, Nat.reduceLeDiff, Nat.reduceLT, Nat.reduceEqDiff, Nat.reduceBEq, Int.reduceToNat, Int.reduceNeg, Int.reduceEq, Int.reduceNe, Int.reduceLE, Int.reduceLT, reduceCtorEq, ↓reduceIte, hi, e1, e3, e4]
        cases r with
        | false =>
          simp only [vx, vz, Nat.reduceAdd, Nat.reduceSub, Nat.reduceMul, Nat.reduceLeDiff, Nat.reduceLT, Nat.reduceEqDiff, Nat.reduceBEq, Int.reduceToNat, Int.reduceNeg, Int.reduceEq, Int.reduceNe, Int.reduceLE, Int.reduceLT, reduceCtorEq, ↓reduceIte]
          refine call_p rfl (t18) ?_
          simp only [vx, vz, Nat.reduceAdd, Nat.reduceSub, Nat.reduceMul, Nat.reduceLeDiff, Nat.reduceLT, Nat.reduceEqDiff, Nat.reduceBEq, Int.reduceToNat, Int.reduceNeg, Int.reduceEq, Int.reduceNe, Int.reduceLE, Int.reduceLT, reduceCtorEq, ↓reduceIte]
        | true =>
          simp only [vx, vz, Nat.reduceAdd, Nat.reduceSub, Nat.reduceMul, Nat.reduceLeDiff, Nat.reduceLT, Nat.reduceEqDiff, Nat.reduceBEq, Int.reduceToNat, Int.reduceNeg, Int.reduceEq, Int.reduceNe, Int.reduceLE, Int.reduceLT, reduceCtorEq, ↓reduceIte, hi]
          refine ⟨by omega, by omega, getM_at hs ?_⟩
          simp only [vx, vz, Nat.reduceAdd, Nat.reduceSub, Nat.reduceMul, Nat.reduceLeDiff, Nat.reduceLT, Nat.reduceEqDiff, Nat.reduceBEq, Int.reduceToNat, Int.reduceNeg, Int.reduceEq, Int.reduceNe, Int.reduceLE, Int.reduceLT, reduceCtorEq, ↓reduceIte]
          simp only [vx, vz, Nat.reduceAdd, Nat.reduceSub, Nat.reduceMul, Nat.reduceLeDiff, Nat.reduceLT, Nat.reduceEqDiff, Nat.reduceBEq, Int.reduceToNat, Int.reduceNeg, Int.reduceEq, Int.reduceNe, Int.reduceLE, Int.reduceLT, reduceCtorEq, ↓reduceIte, Slo.d, hid]
          refine call_p rfl (t18) ?_
          simp only [vx, vz, Nat.reduceAdd, Nat.reduceSub, Nat.reduceMul, Nat.reduceLeDiff, Nat.reduceLT, Nat.reduceEqDiff, Nat.reduceBEq, Int.reduceToNat, Int.reduceNeg, Int.reduceEq, Int.reduceNe, Int.reduceLE, Int.reduceLT, reduceCtorEq, ↓reduceIte]
      | false =>
        cases r with
        | false =>
          simp only [vx, vz, Nat.reduceAdd, Nat.reduceSub, Nat.reduceMul, Nat.reduceLeDiff, Nat.reduceLT, Nat.reduceEqDiff, Nat.reduceBEq, Int.reduceToNat, Int.reduceNeg, Int.reduceEq, Int.reduceNe, Int.reduceLE, Int.reduceLT, reduceCtorEq, ↓reduceIte, hi, e1, e2, e3]
          refine call_p rfl (t18) ?_
          simp only [vx, vz, Nat.reduceAdd, Nat.reduceSub, Nat.reduceMul, Nat.reduceLeDiff, Nat.reduceLT, Nat.reduceEqDiff, Nat.reduceBEq, Int.reduceToNat, Int.reduceNeg, Int.reduceEq, Int.reduceNe, Int.reduceLE, Int.reduceLT, reduceCtorEq, ↓reduceIte]
        | true =>
          simp only [vx, vz, Nat.reduceAdd, Nat.reduceSub, Nat.reduceMul, Nat.reduceLeDiff, Nat.reduceLT, Nat.reduceEqDiff, Nat.reduceBEq, Int.reduceToNat, Int.reduceNeg, Int.reduceEq, Int.reduceNe, Int.reduceLE, Int.reduceLT, reduceCtorEq, ↓reduceIte, hi, e1, e3, e4]
          refine ⟨by omega, by omega, getM_at hs ?_⟩
          simp only [vx, vz, Nat.reduceAdd, Nat.reduceSub, Nat.reduceMul, Nat.reduceLeDiff, Nat.reduceLT, Nat.reduceEqDiff, Nat.reduceBEq, Int.reduceToNat, Int.reduceNeg, Int.reduceEq, Int.reduceNe, Int.reduceLE, Int.reduceLT, reduceCtorEq, ↓reduceIte]
          simp only [vx, vz, Nat.reduceAdd, Nat.reduceSub, Nat.reduceMul, Nat.reduceLeDiff, Nat.reduceLT, Nat.reduceEqDiff, Nat.reduceBEq, Int.reduceToNat, Int.reduceNeg, Int.reduceEq, Int.reduceNe, Int.reduceLE, Int.reduceLT, reduceCtorEq, ↓reduceIte, Slo.d, hid]
          refine call_p rfl (t18) ?_
          simp only [vx, vz, Nat.reduceAdd, Nat.reduceSub, Nat.reduceMul, Nat.reduceLeDiff, Nat.reduceLT, Nat.reduceEqDiff, Nat.reduceBEq, Int.reduceToNat, Int.reduceNeg, Int.reduceEq, Int.reduceNe, Int.reduceLE, Int.reduceLT, reduceCtorEq, ↓reduceIte]
end Go.Proofs.Dr

namespace Go.Proofs.Dr
open Go.Vx
theorem l4 (d : Dv) (c : Chn) (ok : okLs d.sl) (hc : c.fs.length ≤ 20000000) : CallP Tryd.prog 4 [dvV d, chV c] (.d (.bool true)) := by
  have hl : (drvS d c).length ≤ 40000000 := by
    have := drvG_len d c.fs [(c.va, bit (onS d))]
    rw [drvS]
    simp only [List.length_cons, List.length_nil] at this
    omega
  refine go4 ac4 rfl ?_
  simp only [vx, vz, Nat.reduceAdd, Nat.reduceSub, Nat.reduceMul, Nat.reduceLeDiff, Nat.reduceLT, Nat.reduceEqDiff, Nat.reduceBEq, Int.reduceToNat, Int.reduceNeg, Int.reduceEq, Int.reduceNe, Int.reduceLE, Int.reduceLT, reduceCtorEq, ↓reduceIte, ac4]
  refine c_quiet rfl ?_
  simp only [vx, vz, Nat.reduceAdd, Nat.reduceSub, Nat.reduceMul, Nat.reduceLeDiff, Nat.reduceLT, Nat.reduceEqDiff, Nat.reduceBEq, Int.reduceToNat, Int.reduceNeg, Int.reduceEq, Int.reduceNe, Int.reduceLE, Int.reduceLT, reduceCtorEq, ↓reduceIte]
  refine call_p rfl (t20 d c ok hc) ?_
  simp only [vx, vz, Nat.reduceAdd, Nat.reduceSub, Nat.reduceMul, Nat.reduceLeDiff, Nat.reduceLT, Nat.reduceEqDiff, Nat.reduceBEq, Int.reduceToNat, Int.reduceNeg, Int.reduceEq, Int.reduceNe, Int.reduceLE, Int.reduceLT, reduceCtorEq, ↓reduceIte]
  refine call_p rfl (t21 d c ok hc) ?_
  simp only [vx, vz, Nat.reduceAdd, Nat.reduceSub, Nat.reduceMul, Nat.reduceLeDiff, Nat.reduceLT, Nat.reduceEqDiff, Nat.reduceBEq, Int.reduceToNat, Int.reduceNeg, Int.reduceEq, Int.reduceNe, Int.reduceLE, Int.reduceLT, reduceCtorEq, ↓reduceIte]
  refine call_p rfl (t19 (drvS d c) hl) ?_
  simp only [vx, vz, Nat.reduceAdd, Nat.reduceSub, Nat.reduceMul, Nat.reduceLeDiff, Nat.reduceLT, Nat.reduceEqDiff, Nat.reduceBEq, Int.reduceToNat, Int.reduceNeg, Int.reduceEq, Int.reduceNe, Int.reduceLE, Int.reduceLT, reduceCtorEq, ↓reduceIte]
  refine call_p rfl (t18) ?_
  simp only [vx, vz, Nat.reduceAdd, Nat.reduceSub, Nat.reduceMul, Nat.reduceLeDiff, Nat.reduceLT, Nat.reduceEqDiff, Nat.reduceBEq, Int.reduceToNat, Int.reduceNeg, Int.reduceEq, Int.reduceNe, Int.reduceLE, Int.reduceLT, reduceCtorEq, ↓reduceIte]
def T6d : AC := AC.sub [1, 1, 1, 1, 1, 1, 1, 1, 1] ac6
abbrev rT (l : List Tx) : RowS := .live 2 ((txs l).map (·.map .d))
theorem rowB_rD {m : Nat} (d : Dv) : rowB m (rD d) := by
  intro e he v hv; simp at he; subst he; simp at hv; rcases hv with rfl | rfl | rfl <;> rfl
theorem rowB_rC {m : Nat} (c : Chn) : rowB m (rC c) := by
  intro e he v hv; simp at he; subst he; simp at hv; rcases hv with rfl | rfl | rfl <;> rfl
theorem snt_all {l : List Slo} {i : Nat} (h : l.length ≤ i) : sntL (l.take i) = sntL l := by rw [List.take_of_length_le h]
set_option maxRecDepth 10000 in
theorem s6d (l : List Slo) (c : Chn) (ok : okLs l) (hl : l.length ≤ 40) (hv : vldD ⟨l, l.length, 0⟩ = true) :
    wpC Tryd.prog 0 T6d (retQ [.tmp 6] (.d (.bool true))) ⟨mkF 177 [(0, slL l), (6, .d (.bool false)), (9, .optr 3 1 1 0 0)], [rC c, rD ⟨l, l.length, 0⟩]⟩ := by
  have hb := mxB
  simp only [vx, vz, Nat.reduceAdd, Nat.reduceSub, Nat.reduceMul, Nat.reduceLeDiff, Nat.reduceLT, Nat.reduceEqDiff, Nat.reduceBEq, Int.reduceToNat, Int.reduceNeg, Int.reduceEq, Int.reduceNe, Int.reduceLE, Int.reduceLT, reduceCtorEq, ↓reduceIte, T6d, ac6, AC.sub]
  refine loop_st (fun i : Nat => ⟨mkF 177 [(0, slL l), (6, .d (.bool false)), (9, .optr 3 1 1 0 0), (18, .osl 2 2 (sntL (l.take i)).length 0 (sntL (l.take i)).length), (151, slL l), (152, .d (.int .i64 l.length)), (153, .d (.int .i64 i))], [rC c, rD ⟨l, l.length, 0⟩, rT (sntL (l.take i))]⟩) (fun i => i ≤ l.length) (fun i => l.length - i) 0 (Weak.trans (weak_nils 18 2 rfl) (weak_any (by simp only [vx, vz, Nat.reduceAdd, Nat.reduceSub, Nat.reduceMul, Nat.reduceLeDiff, Nat.reduceLT, Nat.reduceEqDiff, Nat.reduceBEq, Int.reduceToNat, Int.reduceNeg, Int.reduceEq, Int.reduceNe, Int.reduceLE, Int.reduceLT, reduceCtorEq, ↓reduceIte]; try trivial))) (by omega) (fun i hi => ?_)
  have hsl := snt_len (l := l) (i := i)
  simp only [vx, vz, Nat.reduceAdd, Nat.reduceSub, Nat.reduceMul, Nat.reduceLeDiff, Nat.reduceLT, Nat.reduceEqDiff, Nat.reduceBEq, Int.reduceToNat, Int.reduceNeg, Int.reduceEq, Int.reduceNe, Int.reduceLE, Int.reduceLT, reduceCtorEq, ↓reduceIte]
  refine cond_split (fun hc => ?_) (fun hc => ?_)
  · simp only [decide_eq_true_eq] at hc
    obtain ⟨x, hx⟩ := get_ex (l := l) (i := i) (by omega)
    have es := snt_snoc hx
    simp only [vx, vz, Nat.reduceAdd, Nat.reduceSub, Nat.reduceMul, Nat.reduceLeDiff, Nat.reduceLT, Nat.reduceEqDiff, Nat.reduceBEq, Int.reduceToNat, Int.reduceNeg, Int.reduceEq, Int.reduceNe, Int.reduceLE, Int.reduceLT, reduceCtorEq, ↓reduceIte]
    refine ⟨by omega, by omega, getM_at hx ?_⟩
    simp only [vx, vz, Nat.reduceAdd, Nat.reduceSub, Nat.reduceMul, Nat.reduceLeDiff, Nat.reduceLT, Nat.reduceEqDiff, Nat.reduceBEq, Int.reduceToNat, Int.reduceNeg, Int.reduceEq, Int.reduceNe, Int.reduceLE, Int.reduceLT, reduceCtorEq, ↓reduceIte]
    simp only [vx, vz, Nat.reduceAdd, Nat.reduceSub, Nat.reduceMul, Nat.reduceLeDiff, Nat.reduceLT, Nat.reduceEqDiff, Nat.reduceBEq, Int.reduceToNat, Int.reduceNeg, Int.reduceEq, Int.reduceNe, Int.reduceLE, Int.reduceLT, reduceCtorEq, ↓reduceIte, Slo.d]
    cases hxi : x.idl with
    | true =>
      rw [hxi, if_pos rfl] at es
      simp only [vx, vz, Nat.reduceAdd, Nat.reduceSub, Nat.reduceMul, Nat.reduceLeDiff, Nat.reduceLT, Nat.reduceEqDiff, Nat.reduceBEq, Int.reduceToNat, Int.reduceNeg, Int.reduceEq, Int.reduceNe, Int.reduceLE, Int.reduceLT, reduceCtorEq, ↓reduceIte]
      refine ls_n (i + 1) (by omega) ?_ (by omega)
      simp only [es]
      refine Weak.trans (weak_any ?_) (weak_frz2 3 (by omega) ⟨.same _ (rowB_rC c), .same _ (rowB_rD _), .same _ rowB_data, trivial⟩ (kpL_refl ?_))
      · simp only [vx, vz, Nat.reduceAdd, Nat.reduceSub, Nat.reduceMul, Nat.reduceLeDiff, Nat.reduceLT, Nat.reduceEqDiff, Nat.reduceBEq, Int.reduceToNat, Int.reduceNeg, Int.reduceEq, Int.reduceNe, Int.reduceLE, Int.reduceLT, reduceCtorEq, ↓reduceIte]
        rw [wr_i64 (by omega) (by omega)]
        first | trivial | exact ⟨rfl, rfl⟩
      · rfl
    | false =>
      rw [hxi, if_neg (by decide)] at es
      simp only [vx, vz, Nat.reduceAdd, Nat.reduceSub, Nat.reduceMul, Nat.reduceLeDiff, Nat.reduceLT, Nat.reduceEqDiff, Nat.reduceBEq, Int.reduceToNat, Int.reduceNeg, Int.reduceEq, Int.reduceNe, Int.reduceLE, Int.reduceLT, reduceCtorEq, ↓reduceIte]
      refine ⟨by omega, ?_⟩
      refine ls_n (i + 1) (by omega) (Weak.trans (weak_any ?_) (weak_frz2 3 (by omega) ⟨.same _ (rowB_rC c), .same _ (rowB_rD _), ?_, trivial⟩ (kpL_refl ?_))) (by omega)
      · simp only [vx, vz, Nat.reduceAdd, Nat.reduceSub, Nat.reduceMul, Nat.reduceLeDiff, Nat.reduceLT, Nat.reduceEqDiff, Nat.reduceBEq, Int.reduceToNat, Int.reduceNeg, Int.reduceEq, Int.reduceNe, Int.reduceLE, Int.reduceLT, reduceCtorEq, ↓reduceIte, es]
        rw [wr_i64 (by omega) (by omega)]
        first | trivial | exact ⟨rfl, rfl⟩
      · simp only [es]; exact rowK_tx
      · rfl
  · simp only [decide_eq_false_iff_not] at hc
    simp only [vx, vz, Nat.reduceAdd, Nat.reduceSub, Nat.reduceMul, Nat.reduceLeDiff, Nat.reduceLT, Nat.reduceEqDiff, Nat.reduceBEq, Int.reduceToNat, Int.reduceNeg, Int.reduceEq, Int.reduceNe, Int.reduceLE, Int.reduceLT, reduceCtorEq, ↓reduceIte]
    refine call_p rfl (t13 ⟨l, l.length, 0⟩) ?_
    simp only [vx, vz, Nat.reduceAdd, Nat.reduceSub, Nat.reduceMul, Nat.reduceLeDiff, Nat.reduceLT, Nat.reduceEqDiff, Nat.reduceBEq, Int.reduceToNat, Int.reduceNeg, Int.reduceEq, Int.reduceNe, Int.reduceLE, Int.reduceLT, reduceCtorEq, ↓reduceIte]
    have hd : donS ⟨l, l.length, 0⟩ = true := by unfold donS; simp
    rw [hd]
    simp only [vx, vz, Nat.reduceAdd, Nat.reduceSub, Nat.reduceMul, Nat.reduceLeDiff, Nat.reduceLT, Nat.reduceEqDiff, Nat.reduceBEq, Int.reduceToNat, Int.reduceNeg, Int.reduceEq, Int.reduceNe, Int.reduceLE, Int.reduceLT, reduceCtorEq, ↓reduceIte]
    refine call_p rfl (t16 ⟨l, l.length, 0⟩ ok) ?_
    simp only [vx, vz, Nat.reduceAdd, Nat.reduceSub, Nat.reduceMul, Nat.reduceLeDiff, Nat.reduceLT, Nat.reduceEqDiff, Nat.reduceBEq, Int.reduceToNat, Int.reduceNeg, Int.reduceEq, Int.reduceNe, Int.reduceLE, Int.reduceLT, reduceCtorEq, ↓reduceIte]
    have hss : sntS ⟨l, l.length, 0⟩ = sntL l := by rw [sntS, if_pos hv]; simp
    rw [hss, snt_all (by omega)]
    have hrow := snap_row (rows := [rC c, rD ⟨l, l.length, 0⟩, rT (sntL l)]) (h := 2) (sz := 2) (es := txs (sntL l)) (n := (sntL l).length) rfl (by simp)
    refine call_s (v := .d (.bool true)) (fun y hy => ?_) rfl ?_ ?_
    · simp only [List.nil_append, List.append_nil, List.mem_cons, List.not_mem_nil, or_false] at hy
      rcases hy with rfl | rfl
      · simp [snapOk, snapCOk, noH, noH1]
      · exact hrow.1
    · simp only [List.nil_append, List.append_nil, List.map_cons, List.map_nil, hrow.2]
      exact t15 (sntL l) (sntL_ok ok)
    simp only [vx, vz, Nat.reduceAdd, Nat.reduceSub, Nat.reduceMul, Nat.reduceLeDiff, Nat.reduceLT, Nat.reduceEqDiff, Nat.reduceBEq, Int.reduceToNat, Int.reduceNeg, Int.reduceEq, Int.reduceNe, Int.reduceLE, Int.reduceLT, reduceCtorEq, ↓reduceIte]
    refine call_p rfl (t18) ?_
    simp only [vx, vz, Nat.reduceAdd, Nat.reduceSub, Nat.reduceMul, Nat.reduceLeDiff, Nat.reduceLT, Nat.reduceEqDiff, Nat.reduceBEq, Int.reduceToNat, Int.reduceNeg, Int.reduceEq, Int.reduceNe, Int.reduceLE, Int.reduceLT, reduceCtorEq, ↓reduceIte]
end Go.Proofs.Dr

namespace Go.Proofs.Dr
open Go.Vx
def T6c : AC := AC.sub [1, 1, 1, 1, 1, 1, 1, 1] (AC.at AC.wk [1, 1, 1, 1, 1, 1, 1, 1, 1] ac6)
theorem stp_true {l : List Slo} {i : Nat} (hi : i < l.length) (hv : vldD ⟨l, i, 0⟩ = true) : stpS ⟨l, i, 0⟩ true = (⟨l, i + 1, 0⟩, !(l[i]?.getD zSl).idl) ∧ vldD ⟨l, (i + 1 : Nat), 0⟩ = true ∧ donS ⟨l, i, 0⟩ = false := by
  have hd : donS ⟨l, i, 0⟩ = false := by
    unfold donS
    simp only
    rw [decide_eq_false (by omega), decide_eq_false (by omega)]; rfl
  obtain ⟨j, s, hj, hs, hb, he⟩ := stp_yes (r := true) hv hd
  simp only at hj hs
  have : j = i := by omega
  subst this
  have hst : stpS ⟨l, j, 0⟩ true = (⟨l, j + 1, 0⟩, !(l[j]?.getD zSl).idl) := by
    rw [he, hs]
    cases h : s.idl <;> simp [h]
  have h2 := stp_valid true hv
  rw [hst] at h2
  exact ⟨hst, by simpa using h2, hd⟩
set_option maxRecDepth 10000 in
theorem s6c (l : List Slo) (c : Chn) (d : Dv) (ok : okLs l) (hl : l.length ≤ 40) (hv : vldD ⟨l, 0, 0⟩ = true) :
    wpC Tryd.prog 0 T6c (retQ [.tmp 6] (.d (.bool true))) ⟨mkF 177 [(0, slL l), (6, .d (.bool false)), (9, .optr 3 1 1 0 0)], [rC c, rD ⟨l, 0, 0⟩]⟩ := by
  have hall : ∀ i : Nat, i ≤ l.length → vldD ⟨l, i, 0⟩ = true := by
    intro i
    induction i with
    | zero => intro _; exact hv
    | succ i ih => intro h; exact (stp_true (by omega) (ih (by omega))).2.1
  simp only [vx, vz, Nat.reduceAdd, Nat.reduceSub, Nat.reduceMul, Nat.reduceLeDiff, Nat.reduceLT, Nat.reduceEqDiff, Nat.reduceBEq, Int.reduceToNat, Int.reduceNeg, Int.reduceEq, Int.reduceNe, Int.reduceLE, Int.reduceLT, reduceCtorEq, ↓reduceIte, T6c, ac6, AC.sub, AC.at]
  refine loop_st (fun i : Nat => ⟨mkF 177 [(0, slL l), (6, .d (.bool false)), (9, .optr 3 1 1 0 0), (17, .d (.int .i64 i))], [rC c, rD ⟨l, i, 0⟩]⟩) (fun i => i ≤ l.length) (fun i => l.length - i) 0 (weak_any (by simp only [vx, vz, Nat.reduceAdd, Nat.reduceSub, Nat.reduceMul, Nat.reduceLeDiff, Nat.reduceLT, Nat.reduceEqDiff, Nat.reduceBEq, Int.reduceToNat, Int.reduceNeg, Int.reduceEq, Int.reduceNe, Int.reduceLE, Int.reduceLT, reduceCtorEq, ↓reduceIte]; try trivial)) (by omega) (fun i hi => ?_)
  simp only [vx, vz, Nat.reduceAdd, Nat.reduceSub, Nat.reduceMul, Nat.reduceLeDiff, Nat.reduceLT, Nat.reduceEqDiff, Nat.reduceBEq, Int.reduceToNat, Int.reduceNeg, Int.reduceEq, Int.reduceNe, Int.reduceLE, Int.reduceLT, reduceCtorEq, ↓reduceIte]
  refine cond_split (fun hc => ?_) (fun hc => ?_)
  · simp only [decide_eq_true_eq] at hc
    obtain ⟨e1, e2, e3⟩ := stp_true (by omega) (hall i (by omega))
    simp only [vx, vz, Nat.reduceAdd, Nat.reduceSub, Nat.reduceMul, Nat.reduceLeDiff, Nat.reduceLT, Nat.reduceEqDiff, Nat.reduceBEq, Int.reduceToNat, Int.reduceNeg, Int.reduceEq, Int.reduceNe, Int.reduceLE, Int.reduceLT, reduceCtorEq, ↓reduceIte]
    refine call_p rfl (t13 ⟨l, i, 0⟩) ?_
    simp only [vx, vz, Nat.reduceAdd, Nat.reduceSub, Nat.reduceMul, Nat.reduceLeDiff, Nat.reduceLT, Nat.reduceEqDiff, Nat.reduceBEq, Int.reduceToNat, Int.reduceNeg, Int.reduceEq, Int.reduceNe, Int.reduceLE, Int.reduceLT, reduceCtorEq, ↓reduceIte]
    rw [e3]
    simp only [vx, vz, Nat.reduceAdd, Nat.reduceSub, Nat.reduceMul, Nat.reduceLeDiff, Nat.reduceLT, Nat.reduceEqDiff, Nat.reduceBEq, Int.reduceToNat, Int.reduceNeg, Int.reduceEq, Int.reduceNe, Int.reduceLE, Int.reduceLT, reduceCtorEq, ↓reduceIte]
    refine call_p rfl (t22 ⟨l, i, 0⟩ true ok) ?_
    simp only [vx, vz, Nat.reduceAdd, Nat.reduceSub, Nat.reduceMul, Nat.reduceLeDiff, Nat.reduceLT, Nat.reduceEqDiff, Nat.reduceBEq, Int.reduceToNat, Int.reduceNeg, Int.reduceEq, Int.reduceNe, Int.reduceLE, Int.reduceLT, reduceCtorEq, ↓reduceIte]
    rw [e1]
    simp only [vx, vz, Nat.reduceAdd, Nat.reduceSub, Nat.reduceMul, Nat.reduceLeDiff, Nat.reduceLT, Nat.reduceEqDiff, Nat.reduceBEq, Int.reduceToNat, Int.reduceNeg, Int.reduceEq, Int.reduceNe, Int.reduceLE, Int.reduceLT, reduceCtorEq, ↓reduceIte]
    refine ls_n (i + 1) (by omega) (weak_any ?_) (by omega)
    simp only [vx, vz, Nat.reduceAdd, Nat.reduceSub, Nat.reduceMul, Nat.reduceLeDiff, Nat.reduceLT, Nat.reduceEqDiff, Nat.reduceBEq, Int.reduceToNat, Int.reduceNeg, Int.reduceEq, Int.reduceNe, Int.reduceLE, Int.reduceLT, reduceCtorEq, ↓reduceIte]
    rw [wr_i64 (by omega) (by omega)]
    first | trivial | exact ⟨rfl, rfl⟩
  · simp only [decide_eq_false_iff_not] at hc
    have : i = l.length := by omega
    subst this
    simp only [vx, vz, Nat.reduceAdd, Nat.reduceSub, Nat.reduceMul, Nat.reduceLeDiff, Nat.reduceLT, Nat.reduceEqDiff, Nat.reduceBEq, Int.reduceToNat, Int.reduceNeg, Int.reduceEq, Int.reduceNe, Int.reduceLE, Int.reduceLT, reduceCtorEq, ↓reduceIte]
    exact wk_in _ (weak_any (by simp only [vx, vz, Nat.reduceAdd, Nat.reduceSub, Nat.reduceMul, Nat.reduceLeDiff, Nat.reduceLT, Nat.reduceEqDiff, Nat.reduceBEq, Int.reduceToNat, Int.reduceNeg, Int.reduceEq, Int.reduceNe, Int.reduceLE, Int.reduceLT, reduceCtorEq, ↓reduceIte]; try trivial)) (s6d l c ok hl (hall _ (Nat.le_refl _)))
end Go.Proofs.Dr
