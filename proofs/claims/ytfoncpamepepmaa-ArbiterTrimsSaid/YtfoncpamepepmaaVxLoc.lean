import Derived.Test.YtfoncpamepepmaaVxReg
set_option linter.unusedSimpArgs false
set_option linter.unusedVariables false
namespace Go.Vx

def optL : Option Opd → List Opd
  | none => []
  | some x => [x]

def AOp.opds : AOp → List Opd
  | .mov x => [x] | .pick c a b => [c, a, b] | .nilck x => [x] | .bin _ x y => [x, y] | .eqB _ x y => [x, y] | .eqS _ _ x y => [x, y] | .isNil _ x y => [x, y] | .un _ x => [x] | .conv _ x => [x] | .same x => [x] | .s2b x => [x] | .b2s x => [x]
  | .alloc _ => [] | .box _ x => [x] | .build _ ps => ps.map (·.2.2) | .buildSl _ _ _ ps => ps.map (·.2) | .load _ _ a => [a] | .store _ a x => [a, x] | .mksl _ _ _ l c => [l, c]
  | .slice _ x lo hi => x :: (optL lo ++ optL hi) | .fldA _ x => [x] | .fld _ _ _ x => [x] | .idxA _ _ x i => [x, i] | .idx _ _ _ x i => [x, i] | .idxS x i => [x, i] | .ext x _ => [x]
  | .mkfn _ a b => a ++ b | .len _ x => [x] | .append _ _ s x => [s, x] | .copy _ d s => [d, s] | .mn x y => [x, y] | .mx x y => [x, y]

section
variable {ev ev' : Opd → V} {rows rows' : Rows}

theorem partsW_ev : ∀ (ps : List (Nat × Nat × Opd)) (cells : List V) (K : List V → Prop), (∀ x ∈ ps.map (·.2.2), ev x = ev' x) → (partsW ev ps cells K ↔ partsW ev' ps cells K)
  | [], _, _, _ => Iff.rfl
  | (off, sz, x) :: ps, cells, K, h => by
    simp only [partsW]
    rw [h x (by simp)]
    refine and_congr Iff.rfl ⟨fun hh => (dm_cellsW _ _).mono _ _ (fun cs hc => (partsW_ev ps _ K (fun y hy => h y (by simp at hy ⊢; exact .inr hy))).1 hc) hh, fun hh => (dm_cellsW _ _).mono _ _ (fun cs hc => (partsW_ev ps _ K (fun y hy => h y (by simp at hy ⊢; exact .inr hy))).2 hc) hh⟩

theorem partsSl_ev (sz : Nat) : ∀ (ps : List (Nat × Opd)) (es : List (List V)) (K : List (List V) → Prop), (∀ x ∈ ps.map (·.2), ev x = ev' x) → (partsSl ev sz ps es K ↔ partsSl ev' sz ps es K)
  | [], _, _, _ => Iff.rfl
  | (i, x) :: ps, es, K, h => by
    simp only [partsSl]
    rw [h x (by simp)]
    refine and_congr Iff.rfl ⟨fun hh => (dm_cellsW _ _).mono _ _ (fun cs hc => (partsSl_ev sz ps _ K (fun y hy => h y (by simp at hy ⊢; exact .inr hy))).1 hc) hh, fun hh => (dm_cellsW _ _).mono _ _ (fun cs hc => (partsSl_ev sz ps _ K (fun y hy => h y (by simp at hy ⊢; exact .inr hy))).2 hc) hh⟩

theorem bndW_ev {o : Option Opd} (h : ∀ x ∈ optL o, ev x = ev' x) (d : Int) (K : Int → Prop) : bndW ev o d K = bndW ev' o d K := by
  cases o with
  | none => rfl
  | some x => simp only [bndW, h x (by simp [optL])]

theorem opW_ev (o : AOp) (h : ∀ x ∈ o.opds, ev x = ev' x) (hf : Nat) (K : V → List (Nat × RowS) → Prop) : opW o ev rows hf K ↔ opW o ev' rows hf K := by
  cases o with
  | build z ps => simp only [opW]; exact partsW_ev ps _ _ h
  | buildSl sz len z ps => simp only [opW]; exact partsSl_ev sz ps _ _ h
  | mkfn f a b =>
    simp only [opW]
    rw [List.map_congr_left (fun x hx => h x (by simp [AOp.opds, hx])), List.map_congr_left (l := b) (fun x hx => h x (by simp [AOp.opds, hx]))]
  | slice sz x lo hi =>
    simp only [opW]
    rw [h x (by simp [AOp.opds])]
    have h1 : ∀ d K, bndW ev lo d K = bndW ev' lo d K := bndW_ev (fun y hy => h y (by simp [AOp.opds, hy]))
    have h2 : ∀ d K, bndW ev hi d K = bndW ev' hi d K := bndW_ev (fun y hy => h y (by simp [AOp.opds, hy]))
    simp only [h1, h2]
  | _ =>
    simp only [AOp.opds, List.mem_cons, List.not_mem_nil, or_false, forall_eq_or_imp, forall_eq] at h
    simp only [opW, h]

theorem live_loc {h sz n : Nat} (e : rows[h]? = rows'[h]?) (hl : LiveN rows h sz n) : LiveN rows' h sz n := by
  obtain ⟨es, h1, h2⟩ := hl
  exact ⟨es, e.symm.trans h1, h2⟩

theorem elemsW_loc {sz : Nat} {v : V} {K : List (List V) → Prop} (e : ∀ h ∈ hOf1 v, rows[h]? = rows'[h]?) (hw : elemsW rows sz v K) : elemsW rows' sz v K := by
  unfold elemsW at hw ⊢
  split at hw
  · exact hw
  · exact hw
  · exact hw
  · rename_i s h n off len
    have e' := e h (by simp [hOf1])
    refine ⟨hw.1, ?_, fun es he => hw.2.2 es (e'.trans he)⟩
    obtain ⟨es, h1, h2⟩ := hw.2.1
    exact ⟨es, e'.symm.trans h1, h2⟩
  · exact hw

theorem opW_rows (o : AOp) (h : ∀ x ∈ o.opds, ∀ g ∈ hOf1 (ev x), rows[g]? = rows'[g]?) (hf : Nat) (K : V → List (Nat × RowS) → Prop) (hw : opW o ev rows hf K) : opW o ev rows' hf K := by
  cases o with
  | nilck x =>
    simp only [opW] at hw ⊢
    split at hw
    · exact hw
    · rename_i e; exact ⟨live_loc (h x (by simp [AOp.opds]) _ (by rw [e]; simp [hOf1])) hw.1, hw.2⟩
    · exact hw
    · exact hw
  | b2s x => exact ⟨hw.1, elemsW_loc (h x (by simp [AOp.opds])) hw.2⟩
  | load agg sz a =>
    simp only [opW] at hw ⊢
    split at hw
    · exact hw
    · rename_i e
      have e' := h a (by simp [AOp.opds]) _ (by rw [e]; simp [hOf1]; rfl)
      exact ⟨live_loc e' hw.1, hw.2.1, hw.2.2.1, fun es e1 h1 h2 => hw.2.2.2 es e1 (e'.trans h1) h2⟩
    · exact hw
  | store sz a x =>
    simp only [opW] at hw ⊢
    split at hw
    · rename_i e
      have e' := h a (by simp [AOp.opds]) _ (by rw [e]; simp [hOf1]; rfl)
      exact ⟨live_loc e' hw.1, hw.2.1, hw.2.2.1, (dm_cellsW _ _).mono _ _ (fun cs hc es e1 h1 h2 => hc es e1 (e'.trans h1) h2) hw.2.2.2⟩
    · exact hw
  | slice sz x lo hi =>
    simp only [opW] at hw ⊢
    split at hw
    · exact hw
    · exact hw
    · exact hw
    · rename_i e
      exact ⟨hw.1, hw.2.1, live_loc (h x (by simp [AOp.opds]) _ (by rw [e]; simp [hOf1])) hw.2.2.1, hw.2.2.2⟩
    · exact hw
  | fldA off x =>
    simp only [opW] at hw ⊢
    split at hw
    · exact hw
    · rename_i e; exact ⟨live_loc (h x (by simp [AOp.opds]) _ (by rw [e]; simp [hOf1])) hw.1, hw.2⟩
    · exact hw
  | idxA sz arr x i =>
    simp only [opW] at hw ⊢
    refine (dm_intW _).mono _ _ (fun j hj => ?_) hw
    split at hj
    · exact hj
    · rename_i e; exact ⟨hj.1, live_loc (h x (by simp [AOp.opds]) _ (by rw [e]; simp [hOf1])) hj.2.1, hj.2.2⟩
    · exact hj
    · rename_i e; exact ⟨live_loc (h x (by simp [AOp.opds]) _ (by rw [e]; simp [hOf1])) hj.1, hj.2⟩
    · exact hj
  | len str x =>
    simp only [opW] at hw ⊢
    split at hw
    · exact hw
    · exact hw
    · exact hw
    · rename_i e; exact ⟨live_loc (h x (by simp [AOp.opds]) _ (by rw [e]; simp [hOf1])) hw.1, hw.2⟩
    · exact hw
  | append sz bytes s x =>
    simp only [opW] at hw ⊢
    refine (dm_elemsW _ _ _).mono _ _ (fun xs hx => ?_) (elemsW_loc (h x (by simp [AOp.opds])) hw)
    split at hx
    · exact hx
    · rename_i e
      have e' := h s (by simp [AOp.opds]) _ (by rw [e]; simp [hOf1]; rfl)
      obtain ⟨a1, a2, a3, a4, a5, a6⟩ := hx
      exact ⟨a1, a2, a3, live_loc e' a4, a5, fun es he => a6 es (e'.trans he)⟩
    · exact hx
  | copy sz d s =>
    simp only [opW] at hw ⊢
    refine (dm_elemsW _ _ _).mono _ _ (fun xs hx => ?_) (elemsW_loc (h s (by simp [AOp.opds])) hw)
    split at hx
    · exact hx
    · rename_i e
      have e' := h d (by simp [AOp.opds]) _ (by rw [e]; simp [hOf1]; rfl)
      exact ⟨hx.1, live_loc e' hx.2.1, fun es he => hx.2.2 es (e'.trans he)⟩
    · exact hx
  | _ => exact hw

theorem snapC_loc {v : V} (e : ∀ h ∈ hOf1 v, rows[h]? = rows'[h]?) : snapC rows v = snapC rows' v := by
  unfold snapC
  split
  · rename_i h n off len
    rw [e h (by simp [hOf1])]
  · rename_i h n off len
    rw [e h (by simp [hOf1])]
  · rfl

theorem snapV_loc {v : V} (e : ∀ h ∈ hAll v, rows[h]? = rows'[h]?) : snapV rows v = snapV rows' v := by
  cases v with
  | agg cs =>
    simp only [snapV]
    rw [List.map_congr_left fun x hx => snapC_loc fun h hh => e h (by simp only [hAll, List.mem_flatMap]; exact ⟨x, hx, hh⟩)]
  | any => exact snapC_loc (v := .any) e
  | d x => exact snapC_loc (v := .d x) e
  | osl a b c d f => exact snapC_loc (v := .osl a b c d f) e
  | optr a b c d f => exact snapC_loc (v := .optr a b c d f) e
  | tup a => rfl
  | fn f a b =>
    simp only [snapV]
    rw [List.map_congr_left fun x hx => snapC_loc fun h hh => e h (by simp only [hAll, List.mem_flatMap, List.mem_append]; exact ⟨x, .inl hx, hh⟩),
      List.map_congr_left (l := b) fun x hx => snapC_loc fun h hh => e h (by simp only [hAll, List.mem_flatMap, List.mem_append]; exact ⟨x, .inr hx, hh⟩)]

theorem snapCOk_loc {v : V} (e : ∀ h ∈ hOf1 v, rows[h]? = rows'[h]?) (h : snapCOk rows v) : snapCOk rows' v := by
  cases v with
  | osl sz g n off len =>
    obtain ⟨h1, es, h2, h3⟩ := h
    exact ⟨h1, es, (e g (by simp [hOf1])).symm.trans h2, h3⟩
  | optr sz g n i off =>
    obtain ⟨es, e', h2, h3⟩ := h
    exact ⟨es, e', (e g (by simp [hOf1])).symm.trans h2, h3⟩
  | _ => exact h

theorem snapOk_loc {v : V} (e : ∀ h ∈ hAll v, rows[h]? = rows'[h]?) (h : snapOk rows v) : snapOk rows' v := by
  cases v with
  | agg cs => exact fun x hx => snapCOk_loc (fun g hg => e g (by simp only [hAll, List.mem_flatMap]; exact ⟨x, hx, hg⟩)) (h x hx)
  | osl a b c d f => exact snapCOk_loc (v := .osl a b c d f) e h
  | optr a b c d f => exact snapCOk_loc (v := .optr a b c d f) e h
  | fn f a b =>
    exact ⟨fun x hx => snapCOk_loc (fun g hg => e g (by simp only [hAll, List.mem_flatMap, List.mem_append]; exact ⟨x, .inl hx, hg⟩)) (h.1 x hx),
      fun x hx => snapCOk_loc (fun g hg => e g (by simp only [hAll, List.mem_flatMap, List.mem_append]; exact ⟨x, .inr hx, hg⟩)) (h.2 x hx)⟩
  | _ => exact h

theorem callD_loc {P : Program} {f : FuncId} {vals : List V} {v : V} (e : ∀ x ∈ vals, ∀ h ∈ hAll x, rows[h]? = rows'[h]?) (h : CallD P f vals rows v) : CallD P f vals rows' v := by
  rcases h with h | ⟨h1, h2, h3⟩
  · exact .inl h
  · refine .inr ⟨fun x hx => snapOk_loc (e x hx) (h1 x hx), h2, ?_⟩
    rw [← List.map_congr_left fun x hx => snapV_loc (e x hx)]
    exact h3

theorem callX_loc {P : Program} {f : FuncId} {vals : List V} {v : V} {ups : List (Nat × RowS)} (e : ∀ x ∈ vals, ∀ h ∈ hAll x, rows[h]? = rows'[h]?) (h : CallX P f vals rows v ups) : CallX P f vals rows' v ups := by
  rcases h with ⟨h, rfl⟩ | ⟨⟨h1, h2⟩, rfl⟩ | ⟨h0, sz, es, es', vals0, v0, hrow, hd, hd', hl, hv, hz, hin, hm, hv2, hu⟩
  · exact .inl ⟨callD_loc e h, rfl⟩
  rotate_left
  · obtain ⟨x, hx1, hx2⟩ := List.mem_flatMap.1 hin
    exact .inr (.inr ⟨h0, sz, es, es', vals0, v0, (e x hx1 h0 hx2).symm.trans hrow, hd, hd', hl, hv, hz, hin, hm, hv2, hu⟩)
  · refine .inr (.inl ⟨⟨fun x hx => snapOk_loc (e x hx) (h1 x hx), ?_⟩, rfl⟩)
    rw [← List.map_congr_left fun x hx => snapV_loc (e x hx)]
    exact h2

end

def AAct.opds : AAct → List Opd
  | .op o => o.opds
  | .call f args => f :: args

def AStm.reads (s : AStm) : List Nat :=
  (s.act.opds.filterMap fun x => match x with | .t i => some i | .k _ => none) ++ (match s.guard with | none => [] | some (t, _) => [t])

def AStm.makes (s : AStm) : Bool := match s.act with | .op o => o.makes | .call _ _ => false

/-- looks at no row -/
def AOp.bare : AOp → Bool
  | .mov _ => true
  | _ => false

/-- The handles that a statement looks at. -/
def AStm.foot (s : AStm) (base : Nat) (fr : List V) : List Nat :=
  match s.act with
  | .op o => if o.bare then [] else (if o.makes then [base + s.hi] else []) ++ (o.opds.map (Opd.ev fr)).flatMap hOf1
  | .call f args => match f.ev fr with
    | .fn _ first cap => (first ++ args.map (Opd.ev fr) ++ cap).flatMap hAll
    | _ => []

section
variable {P : Program} {base : Nat} {s : AStm} {S S' : St}

theorem ev_loc (h : ∀ t ∈ s.reads, nth S'.fr t = nth S.fr t) : ∀ x ∈ s.act.opds, Opd.ev S.fr x = Opd.ev S'.fr x := by
  intro x hx
  cases x with
  | t i => exact (h i (by unfold AStm.reads; exact List.mem_append_left _ (List.mem_filterMap.2 ⟨.t i, hx, rfl⟩))).symm
  | k v => rfl

theorem act_loc {K : V → List (Nat × RowS) → Prop} (h : ∀ t ∈ s.reads, nth S'.fr t = nth S.fr t) (hr : ∀ g ∈ s.foot base S.fr, S'.rows[g]? = S.rows[g]?) (hw : actW P base s S K) : actW P base s S' K := by
  have he := ev_loc h
  unfold AStm.foot at hr
  unfold actW at hw ⊢
  cases hact : s.act with
  | op o =>
    simp only [hact] at hw hr ⊢
    rw [hact] at he
    cases hb : o.bare with
    | true =>
      obtain ⟨x, rfl⟩ : ∃ x, o = .mov x := by
        cases o <;> first | exact ⟨_, rfl⟩ | exact Bool.noConfusion hb
      refine ⟨fun hm => Bool.noConfusion hm, ?_⟩
      rw [← opW_ev (.mov x) he]
      exact hw.2
    | false =>
    rw [hb] at hr
    simp only [Bool.false_eq_true, if_false] at hr
    refine ⟨fun hm => ?_, ?_⟩
    · rw [hr _ (by simp [hm])]; exact hw.1 hm
    · rw [← opW_ev o he]
      refine opW_rows o (fun x hx g hg => (hr g ?_).symm) _ _ hw.2
      exact List.mem_append_right _ (List.mem_flatMap.2 ⟨_, List.mem_map_of_mem hx, hg⟩)
  | call f args =>
    simp only [hact] at hw hr ⊢
    rw [hact] at he
    simp only [AAct.opds] at he
    rw [← he f (by simp), ← List.map_congr_left (fun x hx => he x (by simp [hx]))]
    unfold callW at hw ⊢
    split at hw
    · rename_i n first cap e1
      simp only [e1] at hr
      obtain ⟨v, ups, h1, h2⟩ := hw
      exact ⟨v, ups, callX_loc (fun x hx g hg => (hr g (List.mem_flatMap.2 ⟨x, hx, hg⟩)).symm) h1, h2⟩
    · exact hw

theorem step_loc {v : V} {ups : List (Nat × RowS)} (h : ∀ t ∈ s.reads, nth S'.fr t = nth S.fr t) (hr : ∀ g ∈ s.foot base S.fr, S'.rows[g]? = S.rows[g]?) (hw : StepOK P base s S v ups) : StepOK P base s S' v ups := by
  unfold StepOK at hw ⊢
  cases hg : s.guard with
  | none => simp only [hg] at hw ⊢; exact act_loc h hr hw
  | some tw =>
    obtain ⟨t, want⟩ := tw
    simp only [hg] at hw ⊢
    rw [h t (by unfold AStm.reads; rw [hg]; simp)]
    split at hw
    · rename_i b e
      rcases hw with ⟨h1, h2⟩ | h2
      · exact .inl ⟨h1, act_loc h hr h2⟩
      · exact .inr h2
    · exact hw
    · exact hw.elim

end
end Go.Vx
