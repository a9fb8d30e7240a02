import Derived.Test.YtkbjfoodikoppaaDoorVxSimp
import Derived.Laws.BitsAllLaws
import Derived.Laws.Bits64
set_option linter.unusedSectionVars false
set_option linter.unusedSimpArgs false
set_option linter.unusedVariables false
namespace Go.Vx

mutual
/-- The handles of a value lie below m. -/
def hB (m : Nat) : V → Bool
  | .any => true
  | .d _ => true
  | .osl _ h _ _ _ => decide (h < m)
  | .optr _ h _ _ _ => decide (h < m)
  | .agg cs => hBL m cs
  | .tup vs => hBL m vs
  | .fn _ a b => hBL m a && hBL m b
def hBL (m : Nat) : List V → Bool
  | [] => true
  | v :: l => hB m v && hBL m l
end

theorem hBL_mem {m : Nat} {l : List V} (h : hBL m l = true) {v : V} (hv : v ∈ l) : hB m v = true := by
  induction l with
  | nil => cases hv
  | cons x l ih =>
    simp only [hBL, Bool.and_eq_true] at h
    rcases List.mem_cons.1 hv with rfl | hv
    · exact h.1
    · exact ih h.2 hv

theorem hBL_all {m : Nat} {l : List V} (h : ∀ v ∈ l, hB m v = true) : hBL m l = true := by
  induction l with
  | nil => rfl
  | cons x l ih =>
    simp only [hBL, Bool.and_eq_true]
    exact ⟨h x (by simp), ih fun v hv => h v (by simp [hv])⟩

def rowB (m : Nat) : RowS → Prop
  | .live _ es => ∀ e ∈ es, ∀ v ∈ e, hB m v = true
  | _ => True

def rowsB (m : Nat) : Rows → Prop
  | [] => True
  | r :: l => rowB m r ∧ rowsB m l

theorem rowsB_get {m : Nat} {rows : Rows} (h : rowsB m rows) {i : Nat} {r : RowS} (hr : rows[i]? = some r) : rowB m r := by
  induction rows generalizing i with
  | nil => simp at hr
  | cons x l ih => cases i with
    | zero => simp at hr; subst hr; exact h.1
    | succ i => exact ih h.2 (by simpa using hr)

theorem rowB_data {m sz : Nat} {es : List (List D)} : rowB m (.live sz (es.map (·.map .d))) := by
  intro e he v hv
  obtain ⟨e0, _, rfl⟩ := List.mem_map.1 he
  obtain ⟨d, _, rfl⟩ := List.mem_map.1 hv
  rfl

section
variable {c : Cx} {m : Nat}

/-- The rows from m on, alone. -/
def hiRows (m : Nat) (rows : Rows) : Rows := List.replicate (min m rows.length) .dead ++ rows.drop m

theorem hiRows_lt {rows : Rows} {h : Nat} (hh : h < m) : (hiRows m rows)[h]? = if h < rows.length then some .dead else none := by
  unfold hiRows
  by_cases hl : h < rows.length
  · rw [List.getElem?_append_left (by simp; omega), List.getElem?_replicate]
    simp [hl]; omega
  · rw [List.getElem?_append_right (by simp; omega)]
    simp only [hl, if_false]
    rw [List.getElem?_eq_none]
    simp; omega

theorem hiRows_ge {rows : Rows} {h : Nat} (hh : m ≤ h) : (hiRows m rows)[h]? = rows[h]? := by
  unfold hiRows
  rw [List.getElem?_append_right (by simp; omega)]
  simp only [List.length_replicate, List.getElem?_drop]
  by_cases hl : m ≤ rows.length
  · congr 1; omega
  · rw [List.getElem?_eq_none (by omega), List.getElem?_eq_none (by omega)]

def hiCx (m : Nat) (c : Cx) : Cx := ⟨fun h => if h < m then none else c.ρ h, c.I, hiRows m c.rows, c.w⟩

theorem hi_ext (c : Cx) : Ext c (hiCx m c) := by
  refine ⟨rfl, rfl, rfl, Nat.le_refl _, fun _ _ _ => rfl, fun _ h => h, fun _ h => .inl h, fun h b hb => ?_, fun h => ?_⟩
  · simp only [hiCx] at hb
    split at hb
    · cases hb
    · exact .inl hb
  · by_cases hh : h < m
    · unfold RowStep
      simp only [hiCx, hiRows_lt hh]
      cases hr : c.rows[h]? with
      | none => trivial
      | some r =>
        have := (List.getElem?_eq_some_iff.1 hr).1
        cases r with
        | un => exact ⟨_, by simp [this]; rfl⟩
        | dead => simp [this]
        | live sz es => exact .inl (by simp [this])
        | obj o => exact .inl (by simp [this])
    · exact RowStep.of_eq (by simp only [hiCx]; rw [hiRows_ge (by omega)]) (by simp [hiCx, hh]) (fun _ _ => rfl)

theorem hi_ok (ok : Ok c) : Ok (hiCx m c) := by
  have hx := hi_ext (m := m) c
  refine ⟨fun h h' b h1 h2 => ?_, fun h b hb => ?_, fun h b sz es hb hr => ?_, fun h sz es hb hr => ?_, ok.imm, .step ok hx fun h o hr => ?_⟩
  · simp only [hiCx] at h1 h2
    split at h1
    · cases h1
    · split at h2
      · cases h2
      · exact ok.inj _ _ _ h1 h2
  · simp only [hiCx] at hb ⊢
    split at hb
    · cases hb
    · obtain ⟨h1, h2, r, h3, h4⟩ := ok.own h b hb
      exact ⟨h1, h2, r, by rw [hiRows_ge (by omega)]; exact h3, h4⟩
  · simp only [hiCx] at hb hr ⊢
    split at hb
    · cases hb
    · rw [hiRows_ge (by omega)] at hr
      obtain ⟨arr, ty, fz, h1, h2, h3⟩ := ok.cont h b sz es hb hr
      exact ⟨arr, ty, fz, h1, h2, h3.mono hx ok⟩
  · simp only [hiCx] at hb hr
    by_cases hh : h < m
    · rw [hiRows_lt hh] at hr
      split at hr
      · injection hr with hr; cases hr
      · cases hr
    · rw [hiRows_ge (by omega)] at hr
      simp only [hh, if_false] at hb
      exact ok.virt _ _ _ hb hr
  · simp only [hiCx] at hr
    by_cases hh : h < m
    · rw [hiRows_lt hh] at hr
      split at hr
      · injection hr with hr; cases hr
      · cases hr
    · rw [hiRows_ge (by omega)] at hr
      exact ⟨hr, by simp [hiCx, hh], fun _ _ => rfl⟩

/-- The rows below m; those above are data now. -/
def loCx (m : Nat) (c : Cx) : Cx := ⟨fun h => if h < m then c.ρ h else none, seen (hiCx m c), c.rows.take m, c.w⟩

theorem take_get {rows : Rows} {h : Nat} (hh : h < m) : (rows.take m)[h]? = rows[h]? := by
  rw [List.getElem?_take, if_pos hh]

theorem lo_rep {u : Value} {v : V} (h : Rep c u v) (hv : hB m v = true) : Rep (loCx m c) u v := by
  induction h with
  | any v => exact .any v
  | d v x h => exact .d v x (h.mono (fun b hb => .inl hb) (fun _ _ => rfl))
  | osl sz h n off len cap b o es arr ty fz hrow hn hρ hb ho hcap hlc hlen =>
    simp only [hB, decide_eq_true_eq] at hv
    exact .osl sz h n off len cap b o es arr ty fz (by simp only [loCx]; rw [take_get hv]; exact hrow) hn (by simp [loCx, hv, hρ]) hb ho hcap hlc hlen
  | oslVirt sz h hrow hρ =>
    simp only [hB, decide_eq_true_eq] at hv
    exact .oslVirt sz h (by simp only [loCx]; rw [take_get hv]; exact hrow) (by simp [loCx, hρ])
  | oslStale v sz h n off len h1 hs =>
    simp only [hB, decide_eq_true_eq] at hv
    refine .oslStale v sz h n off len h1 ?_
    simp only [Stale, loCx] at hs ⊢
    rw [take_get hv]; exact hs
  | optr sz h n i off b es hrow hn hρ =>
    simp only [hB, decide_eq_true_eq] at hv
    exact .optr sz h n i off b es (by simp only [loCx]; rw [take_get hv]; exact hrow) hn (by simp [loCx, hv, hρ])
  | optrStale v sz h n i off h1 hs =>
    simp only [hB, decide_eq_true_eq] at hv
    refine .optrStale v sz h n i off h1 ?_
    simp only [Stale, loCx] at hs ⊢
    rw [take_get hv]; exact hs
  | oh v h k b o hrow hρ h1 h2 h3 =>
    simp only [hB, decide_eq_true_eq] at hv
    exact .oh v h k b o (by simp only [loCx]; rw [take_get hv]; exact hrow) (by simp [loCx, hv, hρ]) h1 h2 h3
  | agg vs cs hlen hrep ih =>
    simp only [hB] at hv
    exact .agg vs cs hlen fun j v x h1 h2 => ih j v x h1 h2 (hBL_mem hv (List.mem_of_getElem? h1))
  | tup vs cs hlen hrep ih =>
    simp only [hB] at hv
    exact .tup vs cs hlen fun j v x h1 h2 => ih j v x h1 h2 (hBL_mem hv (List.mem_of_getElem? h1))
  | fn f fs cps first cap hf hc hfr hcr ih1 ih2 =>
    simp only [hB, Bool.and_eq_true] at hv
    exact .fn f fs cps first cap hf hc (fun j v x h1 h2 => ih1 j v x h1 h2 (hBL_mem hv.1 (List.mem_of_getElem? h1))) (fun j v x h1 h2 => ih2 j v x h1 h2 (hBL_mem hv.2 (List.mem_of_getElem? h1)))

theorem lo_ok (ok : Ok c) (hb : rowsB m (c.rows.take m)) : Ok (loCx m c) := by
  refine ⟨fun h h' b h1 h2 => ?_, fun h b hb => ?_, fun h b sz es hbb hr => ?_, fun h sz es hbb hr => ?_, (seen_ok (hi_ok ok)).imm, ⟨fun h o hr => ?_, (seen_ok (hi_ok (m := m) ok)).g.glob⟩⟩
  · simp only [loCx] at h1 h2
    split at h1
    · split at h2
      · exact ok.inj _ _ _ h1 h2
      · cases h2
    · cases h1
  · simp only [loCx] at hb ⊢
    split at hb
    · rename_i hh
      obtain ⟨h1, h2, r, h3, h4⟩ := ok.own h b hb
      refine ⟨h1, fun hs => ?_, r, by rw [take_get hh]; exact h3, h4⟩
      rcases hs with hs | ⟨h', hs⟩
      · exact h2 hs
      · simp only [hiCx] at hs
        split at hs
        · cases hs
        · have := ok.inj _ _ _ hb hs; omega
    · cases hb
  · have hr' := hr
    simp only [loCx] at hbb hr
    split at hbb
    · rename_i hh
      have hrb := rowsB_get hb hr
      rw [take_get hh] at hr
      obtain ⟨arr, ty, fz, h1, h2, h3, h4, h5⟩ := ok.cont h b sz es hbb hr
      refine ⟨arr, ty, fz, h1, h2, h3, h4, fun i e j v h6 h7 => ?_⟩
      obtain ⟨x, h8, h9⟩ := h5 i e j v h6 h7
      exact ⟨x, h8, lo_rep h9 (hrb e (List.mem_of_getElem? h6) v (List.mem_of_getElem? h7))⟩
    · cases hbb
  · simp only [loCx] at hbb hr
    by_cases hh : h < m
    · rw [take_get hh] at hr
      simp only [hh, if_true] at hbb
      exact ok.virt _ _ _ hbb hr
    · rw [List.getElem?_eq_none (by simp; omega)] at hr
      cases hr
  · simp only [loCx] at hr
    by_cases hh : h < m
    · rw [take_get hh] at hr
      obtain ⟨b, h1, h2⟩ := ok.g.gob h o hr
      exact ⟨b, by simp [loCx, hh, h1], h2⟩
    · rw [List.getElem?_eq_none (by simp; omega)] at hr
      cases hr

theorem lo_ext {c0 : Cx} (hx : Ext c0 c) (hm : c0.rows.length ≤ m) : Ext c0 (loCx m c) := by
  refine ⟨hx.os, hx.tape, hx.output, hx.size, hx.keep, fun b h => .inl (hx.imm b h), fun b h => ?_, fun h b hb => ?_, fun h => ?_⟩
  · rcases h with h | ⟨g, h⟩
    · exact hx.newI b h
    · simp only [hiCx] at h
      split at h
      · cases h
      · rcases hx.new g b h with h | h
        · exact .inr (.inr ⟨g, h⟩)
        · exact .inr (.inl h)
  · simp only [loCx] at hb
    split at hb
    · exact hx.new _ _ hb
    · cases hb
  · by_cases hh : h < m
    · have hr := hx.rows h
      unfold RowStep at hr ⊢
      simp only [loCx]
      rw [take_get hh]
      simp only [hh, if_true]
      exact hr
    · unfold RowStep
      rw [List.getElem?_eq_none (by omega)]
      trivial

/-- a slot that is kept, or that becomes data -/
inductive Kp (m : Nat) (rows : Rows) : V → V → Prop where
  | same (v : V) (h : hB m v = true) : Kp m rows v v
  | snap (v v' : V) (h : Snap (hiRows m rows) v v') : Kp m rows v v'

def kpL (m : Nat) (rows : Rows) : List V → List V → Prop
  | [], [] => True
  | a :: l, b :: k => Kp m rows a b ∧ kpL m rows l k
  | [], _ :: _ => False
  | _ :: _, [] => False

theorem kpL_nth {rows : Rows} {l k : List V} (h : kpL m rows l k) : k.length = l.length ∧ ∀ i, i < l.length → Kp m rows (nth l i) (nth k i) := by
  induction l generalizing k with
  | nil => cases k with
    | nil => exact ⟨rfl, by simp⟩
    | cons y k => exact h.elim
  | cons x l ih => cases k with
    | nil => exact h.elim
    | cons y k =>
      obtain ⟨h1, h2⟩ := ih h.2
      refine ⟨by simp [h1], fun i hi => ?_⟩
      cases i with
      | zero => exact h.1
      | succ i => exact h2 i (by simpa using hi)

theorem hi_marks {c : Cx} {m n : Nat} {rows' : Rows} {ds : List Deferred} (h : Marks n c ds) : Marks n ⟨fun h => if h < m then c.ρ h else none, seen (hiCx m c), rows', c.w⟩ ds := by
  refine Marks.less (c := c) (c' := ⟨fun h => if h < m then c.ρ h else none, seen (hiCx m c), rows', c.w⟩) rfl (fun h b hb => ?_) (fun b hb => ?_) h
  · simp only at hb
    split at hb
    · exact ⟨h, hb⟩
    · cases hb
  · rcases hb with hb | ⟨g, hb⟩
    · exact .inl hb
    · simp only [hiCx] at hb
      split at hb
      · cases hb
      · exact .inr ⟨g, hb⟩
/-- What lies in rows from m on becomes data, or is forgotten. -/
theorem weak_frz {b0 : Nat} {fr fr' : List V} {rows : Rows} (m : Nat) (hm : b0 ≤ m) (hrows : rowsB m (rows.take m)) (hk : kpL m rows fr fr') : Weak b0 ⟨fr, rows⟩ ⟨fr', rows.take m⟩ := by
  rintro c0 a w rfl ⟨ρ, I, ok, hx, hd, hl, hf⟩
  obtain ⟨hlen, hkk⟩ := kpL_nth hk
  refine ⟨_, _, lo_ok (m := m) ok hrows, lo_ext hx hm, hi_marks (c := ⟨ρ, I, rows, w⟩) hd, by simp only; rw [hlen]; exact hl, fun i => ?_⟩
  by_cases hi : i < fr.length
  · have hr := hf i
    simp only at hr ⊢
    have hq := hkk i hi
    generalize nth fr i = v at hr hq
    generalize nth fr' i = v' at hq ⊢
    cases hq with
    | same h => exact lo_rep (c := ⟨ρ, I, rows, w⟩) hr h
    | snap _ h => exact bare_lift (snap_rep (hi_ok (m := m) ok) h (hr.mono (hi_ext _) ok)) _ _
  · simp only
    rw [nth_none fr' i (by omega)]
    exact .any _

/-- a row below m that is kept, or whose cells become data -/
inductive RowK (m : Nat) (rows : Rows) : RowS → RowS → Prop where
  | same (r : RowS) (h : rowB m r) : RowK m rows r r
  | cells (sz : Nat) (es es' : List (List V)) (hl : es.length = es'.length)
      (h : ∀ (i : Nat) (e e' : List V), es[i]? = some e → es'[i]? = some e' → e.length = e'.length ∧ ∀ (j : Nat) (v v' : V), e[j]? = some v → e'[j]? = some v' → Kp m rows v v' ∧ oneV v' = true) :
      RowK m rows (.live sz es) (.live sz es')

def rowsK (m : Nat) (rows : Rows) : Rows → Rows → Prop
  | [], [] => True
  | r :: l, r' :: l' => RowK m rows r r' ∧ rowsK m rows l l'
  | [], _ :: _ => False
  | _ :: _, [] => False

theorem rowsK_get {rows : Rows} : ∀ {l l' : Rows}, rowsK m rows l l' → l.length = l'.length ∧ ∀ (h : Nat) (r r' : RowS), l[h]? = some r → l'[h]? = some r' → RowK m rows r r' := by
  intro l
  induction l with
  | nil => intro l' h; cases l' with
    | nil => exact ⟨rfl, fun h r r' hr => by simp at hr⟩
    | cons => exact h.elim
  | cons x l ih => intro l' h; cases l' with
    | nil => exact h.elim
    | cons y l' =>
      obtain ⟨h1, h2⟩ := ih h.2
      refine ⟨by simp [h1], fun i r r' hr hr' => ?_⟩
      cases i with
      | zero => simp at hr hr'; subst hr hr'; exact h.1
      | succ i => exact h2 i r r' (by simpa using hr) (by simpa using hr')

theorem rowsK_live {rows l l' : Rows} (hk : rowsK m rows l l') {h sz : Nat} {es : List (List V)} (hr : l[h]? = some (.live sz es)) : ∃ es', l'[h]? = some (.live sz es') ∧ es'.length = es.length := by
  obtain ⟨h1, h2⟩ := rowsK_get hk
  have hlt : h < l'.length := by rw [← h1]; exact (List.getElem?_eq_some_iff.1 hr).1
  have h3 := h2 h _ _ hr (List.getElem?_eq_getElem hlt)
  rw [List.getElem?_eq_getElem hlt]
  generalize l'[h] = r' at h3
  cases h3 with
  | same _ _ => exact ⟨es, rfl, rfl⟩
  | cells sz es es' hl _ => exact ⟨es', rfl, hl.symm⟩
theorem rowsK_dead {rows l l' : Rows} (hk : rowsK m rows l l') {h : Nat} (hr : l[h]? = some .dead) : l'[h]? = some .dead := by
  obtain ⟨h1, h2⟩ := rowsK_get hk
  have hlt : h < l'.length := by rw [← h1]; exact (List.getElem?_eq_some_iff.1 hr).1
  have h3 := h2 h _ _ hr (List.getElem?_eq_getElem hlt)
  rw [List.getElem?_eq_getElem hlt]
  generalize l'[h] = r' at h3
  cases h3; rfl
theorem rowsK_obj {rows l l' : Rows} (hk : rowsK m rows l l') {h : Nat} {o : GO} (hr : l[h]? = some (RowS.obj o)) : l'[h]? = some (RowS.obj o) := by
  obtain ⟨h1, h2⟩ := rowsK_get hk
  have hlt : h < l'.length := by rw [← h1]; exact (List.getElem?_eq_some_iff.1 hr).1
  have h3 := h2 h _ _ hr (List.getElem?_eq_getElem hlt)
  rw [List.getElem?_eq_getElem hlt]
  generalize l'[h] = r' at h3
  cases h3; rfl
theorem rowsK_objback {rows l l' : Rows} (hk : rowsK m rows l l') {h : Nat} {o : GO} (hr : l'[h]? = some (RowS.obj o)) : l[h]? = some (RowS.obj o) := by
  obtain ⟨h1, h2⟩ := rowsK_get hk
  have hlt : h < l.length := by rw [h1]; exact (List.getElem?_eq_some_iff.1 hr).1
  have h3 := h2 h _ _ (List.getElem?_eq_getElem hlt) hr
  rw [List.getElem?_eq_getElem hlt]
  generalize l[h] = r at h3
  cases h3; rfl
theorem rowsK_back {rows l l' : Rows} (hk : rowsK m rows l l') {h sz : Nat} {es' : List (List V)} (hr : l'[h]? = some (.live sz es')) : ∃ es, l[h]? = some (.live sz es) ∧ RowK m rows (.live sz es) (.live sz es') := by
  obtain ⟨h1, h2⟩ := rowsK_get hk
  have hlt : h < l.length := by rw [h1]; exact (List.getElem?_eq_some_iff.1 hr).1
  have h3 := h2 h _ _ (List.getElem?_eq_getElem hlt) hr
  rw [List.getElem?_eq_getElem hlt]
  generalize l[h] = r at h3
  cases h3 with
  | same _ hb => exact ⟨es', rfl, .same _ hb⟩
  | cells sz es es' hl hh => exact ⟨es, rfl, .cells sz es es' hl hh⟩

/-- as loCx, with the rows said anew -/
def lo2Cx (m : Nat) (c : Cx) (rows' : Rows) : Cx := ⟨fun h => if h < m then c.ρ h else none, seen (hiCx m c), rows', c.w⟩

theorem lo2_rep {rows' : Rows} (hk : rowsK m c.rows (c.rows.take m) rows') {u : Value} {v : V} (h : Rep c u v) (hv : hB m v = true) : Rep (lo2Cx m c rows') u v := by
  have hst : ∀ {h n : Nat}, h < m → Stale c.rows h n → Stale rows' h n := fun {h n} hh hs => by
    rcases hs with hs | ⟨sz, es, hs, hn⟩
    · exact .inl (rowsK_dead hk (by rw [take_get hh]; exact hs))
    · obtain ⟨es', h1, h2⟩ := rowsK_live hk (h := h) (by rw [take_get hh]; exact hs)
      exact .inr ⟨sz, es', h1, by omega⟩
  induction h with
  | any v => exact .any v
  | d v x h => exact .d v x (h.mono (fun b hb => .inl hb) (fun _ _ => rfl))
  | osl sz h n off len cap b o es arr ty fz hrow hn hρ hb ho hcap hlc hlen =>
    simp only [hB, decide_eq_true_eq] at hv
    obtain ⟨es', h1, h2⟩ := rowsK_live hk (h := h) (by rw [take_get hv]; exact hrow)
    exact .osl sz h n off len cap b o es' arr ty fz h1 (by omega) (by simp [lo2Cx, hv, hρ]) hb ho hcap hlc hlen
  | oslVirt sz h hrow hρ =>
    simp only [hB, decide_eq_true_eq] at hv
    obtain ⟨es', h1, h2⟩ := rowsK_live hk (h := h) (by rw [take_get hv]; exact hrow)
    have : es' = [] := List.eq_nil_of_length_eq_zero h2
    subst this
    exact .oslVirt sz h h1 (by simp [lo2Cx, hρ])
  | oslStale v sz h n off len h1 hs =>
    simp only [hB, decide_eq_true_eq] at hv
    exact .oslStale v sz h n off len h1 (hst hv hs)
  | optr sz h n i off b es hrow hn hρ =>
    simp only [hB, decide_eq_true_eq] at hv
    obtain ⟨es', h1, h2⟩ := rowsK_live hk (h := h) (by rw [take_get hv]; exact hrow)
    exact .optr sz h n i off b es' h1 (by omega) (by simp [lo2Cx, hv, hρ])
  | optrStale v sz h n i off h1 hs =>
    simp only [hB, decide_eq_true_eq] at hv
    exact .optrStale v sz h n i off h1 (hst hv hs)
  | oh v h k b o hrow hρ h1 h2 h3 =>
    simp only [hB, decide_eq_true_eq] at hv
    exact .oh v h k b o (rowsK_obj hk (by rw [take_get hv]; exact hrow)) (by simp [lo2Cx, hv, hρ]) h1 h2 h3
  | agg vs cs hlen hrep ih =>
    simp only [hB] at hv
    exact .agg vs cs hlen fun j v x h1 h2 => ih j v x h1 h2 (hBL_mem hv (List.mem_of_getElem? h1))
  | tup vs cs hlen hrep ih =>
    simp only [hB] at hv
    exact .tup vs cs hlen fun j v x h1 h2 => ih j v x h1 h2 (hBL_mem hv (List.mem_of_getElem? h1))
  | fn f fs cps first cap hf hc hfr hcr ih1 ih2 =>
    simp only [hB, Bool.and_eq_true] at hv
    exact .fn f fs cps first cap hf hc (fun j v x h1 h2 => ih1 j v x h1 h2 (hBL_mem hv.1 (List.mem_of_getElem? h1))) (fun j v x h1 h2 => ih2 j v x h1 h2 (hBL_mem hv.2 (List.mem_of_getElem? h1)))

theorem kp_rep {rows' : Rows} (ok : Ok c) (hk : rowsK m c.rows (c.rows.take m) rows') {u : Value} {v v' : V} (h : Rep c u v) (hq : Kp m c.rows v v') : Rep (lo2Cx m c rows') u v' := by
  cases hq with
  | same h' => exact lo2_rep hk h h'
  | snap _ h' => exact bare_lift (snap_rep (hi_ok (m := m) ok) h' (h.mono (hi_ext _) ok)) _ _

theorem lo2_ok {rows' : Rows} (ok : Ok c) (hk : rowsK m c.rows (c.rows.take m) rows') : Ok (lo2Cx m c rows') := by
  have hlen := (rowsK_get hk).1
  refine ⟨fun h h' b h1 h2 => ?_, fun h b hb => ?_, fun h b sz es hbb hr => ?_, fun h sz es hbb hr => ?_, (seen_ok (hi_ok ok)).imm, ⟨fun h o hr => ?_, (seen_ok (hi_ok (m := m) ok)).g.glob⟩⟩
  · simp only [lo2Cx] at h1 h2
    split at h1
    · split at h2
      · exact ok.inj _ _ _ h1 h2
      · cases h2
    · cases h1
  · simp only [lo2Cx] at hb ⊢
    split at hb
    · rename_i hh
      obtain ⟨h1, h2, r, h3, hL⟩ := ok.own h b hb
      have h4 : ∃ r', rows'[h]? = some r' ∧ r'.isL := by
        cases r with
        | live sz es =>
          obtain ⟨es', h4, _⟩ := rowsK_live hk (h := h) (by rw [take_get hh]; exact h3)
          exact ⟨_, h4, trivial⟩
        | obj o => exact ⟨_, rowsK_obj hk (h := h) (by rw [take_get hh]; exact h3), trivial⟩
        | un => exact hL.elim
        | dead => exact hL.elim
      refine ⟨h1, fun hs => ?_, h4⟩
      rcases hs with hs | ⟨h', hs⟩
      · exact h2 hs
      · simp only [hiCx] at hs
        split at hs
        · cases hs
        · have := ok.inj _ _ _ hb hs; omega
    · cases hb
  · simp only [lo2Cx] at hbb hr
    split at hbb
    · rename_i hh
      obtain ⟨es0, h0, hrk⟩ := rowsK_back hk hr
      rw [take_get hh] at h0
      obtain ⟨arr, ty, fz, h1, h2, h3, h4, h5⟩ := ok.cont h b sz es0 hbb h0
      refine ⟨arr, ty, fz, h1, h2, ?_⟩
      cases hrk with
      | same _ hrb =>
        refine ⟨h3, h4, fun i e j v h6 h7 => ?_⟩
        obtain ⟨x, h8, h9⟩ := h5 i e j v h6 h7
        exact ⟨x, h8, lo2_rep hk h9 (hrb e (List.mem_of_getElem? h6) v (List.mem_of_getElem? h7))⟩
      | cells _ _ _ hl hh2 =>
        have hpair : ∀ (i : Nat) (e' : List V), es[i]? = some e' → ∃ e, es0[i]? = some e := fun i e' he' => by
          have hlt : i < es0.length := by rw [hl]; exact (List.getElem?_eq_some_iff.1 he').1
          exact ⟨_, List.getElem?_eq_getElem hlt⟩
        refine ⟨fun e' he' => ?_, by rw [← hl]; exact h4, fun i e' j v' h6 h7 => ?_⟩
        · obtain ⟨i, hi, rfl⟩ := List.getElem_of_mem he'
          obtain ⟨e, he⟩ := hpair i _ (List.getElem?_eq_getElem hi)
          obtain ⟨hel, hc⟩ := hh2 i e _ he (List.getElem?_eq_getElem hi)
          refine ⟨by rw [← hel]; exact (h3 e (List.mem_of_getElem? he)).1, fun v hv => ?_⟩
          obtain ⟨j, hj, rfl⟩ := List.getElem_of_mem hv
          exact (hc j _ _ (List.getElem?_eq_getElem (by omega)) (List.getElem?_eq_getElem hj)).2
        · obtain ⟨e, he⟩ := hpair i _ h6
          obtain ⟨hel, hc⟩ := hh2 i e _ he h6
          have hj : j < e.length := by rw [hel]; exact (List.getElem?_eq_some_iff.1 h7).1
          obtain ⟨x, h8, h9⟩ := h5 i e j _ he (List.getElem?_eq_getElem hj)
          exact ⟨x, h8, kp_rep ok hk h9 (hc j _ _ (List.getElem?_eq_getElem hj) h7).1⟩
    · cases hbb
  · simp only [lo2Cx] at hbb hr
    obtain ⟨es0, h0, hrk⟩ := rowsK_back hk hr
    have hh : h < m := by
      have := (List.getElem?_eq_some_iff.1 h0).1
      simp at this; omega
    rw [take_get hh] at h0
    simp only [hh, if_true] at hbb
    have := ok.virt _ _ _ hbb h0
    subst this
    cases hrk with
    | same => rfl
    | cells _ _ _ hl _ => exact List.eq_nil_of_length_eq_zero hl.symm
  · simp only [lo2Cx] at hr
    have h0 := rowsK_objback hk hr
    have hh : h < m := by
      have := (List.getElem?_eq_some_iff.1 h0).1
      simp at this; omega
    rw [take_get hh] at h0
    obtain ⟨b, h1, h2⟩ := ok.g.gob h o h0
    exact ⟨b, by simp [lo2Cx, hh, h1], h2⟩

theorem lo2_ext {c0 : Cx} {rows' : Rows} (hx : Ext c0 c) (hm : c0.rows.length ≤ m) (hk : rowsK m c.rows (c.rows.take m) rows') : Ext c0 (lo2Cx m c rows') := by
  refine ⟨hx.os, hx.tape, hx.output, hx.size, hx.keep, fun b h => .inl (hx.imm b h), fun b h => ?_, fun h b hb => ?_, fun h => ?_⟩
  · rcases h with h | ⟨g, h⟩
    · exact hx.newI b h
    · simp only [hiCx] at h
      split at h
      · cases h
      · rcases hx.new g b h with h | h
        · exact .inr (.inr ⟨g, h⟩)
        · exact .inr (.inl h)
  · simp only [lo2Cx] at hb
    split at hb
    · exact hx.new _ _ hb
    · cases hb
  · by_cases hh : h < m
    · have hr := hx.rows h
      unfold RowStep at hr ⊢
      simp only [lo2Cx]
      split
      · trivial
      · rename_i h0
        rw [h0] at hr
        obtain ⟨r, hr⟩ := hr
        have hlt : h < rows'.length := by
          rw [← (rowsK_get hk).1]
          have := (List.getElem?_eq_some_iff.1 hr).1
          simp; omega
        exact ⟨_, List.getElem?_eq_getElem hlt⟩
      · rename_i h0
        rw [h0] at hr
        exact rowsK_dead hk (by rw [take_get hh]; exact hr)
      · rename_i o h0
        rw [h0] at hr
        rcases hr with hr | ⟨⟨o', hr⟩, hρ⟩
        · exact .inl (rowsK_dead hk (by rw [take_get hh]; exact hr))
        · exact .inr ⟨⟨o', rowsK_obj hk (by rw [take_get hh]; exact hr)⟩, by simp only [hh, if_true]; exact hρ⟩
      · rename_i sz es h0
        rw [h0] at hr
        rcases hr with hr | ⟨es1, hr, hcase⟩
        · exact .inl (rowsK_dead hk (by rw [take_get hh]; exact hr))
        · obtain ⟨es', h4, h5⟩ := rowsK_live hk (h := h) (by rw [take_get hh]; exact hr)
          refine .inr ⟨es', h4, ?_⟩
          rcases hcase with hc | ⟨hc1, hc2, hc3⟩
          · exact .inl (by omega)
          · exact .inr ⟨by omega, by simp only [hh, if_true]; exact hc2, hc3⟩
    · unfold RowStep
      rw [List.getElem?_eq_none (by omega)]
      trivial

/-- as weak_frz; cells of the rows below m may become data, too -/
theorem weak_frz2 {b0 : Nat} {fr fr' : List V} {rows rows' : Rows} (m : Nat) (hm : b0 ≤ m) (hrows : rowsK m rows (rows.take m) rows') (hk : kpL m rows fr fr') : Weak b0 ⟨fr, rows⟩ ⟨fr', rows'⟩ := by
  rintro c0 a w rfl ⟨ρ, I, ok, hx, hd, hl, hf⟩
  obtain ⟨hlen, hkk⟩ := kpL_nth hk
  refine ⟨_, _, lo2_ok (m := m) (c := ⟨ρ, I, rows, w⟩) ok hrows, lo2_ext (c := ⟨ρ, I, rows, w⟩) hx hm hrows, hi_marks (c := ⟨ρ, I, rows, w⟩) hd, by simp only; rw [hlen]; exact hl, fun i => ?_⟩
  by_cases hi : i < fr.length
  · have hr := hf i
    simp only at hr ⊢
    exact kp_rep (c := ⟨ρ, I, rows, w⟩) ok hrows hr (hkk i hi)
  · simp only
    rw [nth_none fr' i (by omega)]
    exact .any _

/-- elements that are data, and one more -/
theorem rowK_snoc {rows : Rows} {sz : Nat} {A : List (List D)} {e : List V} {x : List D} (hk : kpL m rows e (x.map .d)) : RowK m rows (.live sz (A.map (·.map .d) ++ [e])) (.live sz ((A ++ [x]).map (·.map .d))) := by
  obtain ⟨hl, hkk⟩ := kpL_nth hk
  refine .cells sz _ _ (by simp) fun i e1 e1' he he' => ?_
  simp only [List.map_append, List.map_cons, List.map_nil] at he'
  by_cases hi : i < A.length
  · rw [List.getElem?_append_left (by simpa using hi)] at he he'
    rw [he] at he'; injection he' with he'; subst he'
    refine ⟨rfl, fun j v v' hv hv' => ?_⟩
    rw [hv] at hv'; injection hv' with hv'; subst hv'
    have h1 := List.mem_of_getElem? he
    obtain ⟨e0, _, rfl⟩ := List.mem_map.1 h1
    obtain ⟨d, _, rfl⟩ := List.mem_map.1 (List.mem_of_getElem? hv)
    exact ⟨.same _ rfl, rfl⟩
  · rw [List.getElem?_append_right (by simpa using hi)] at he he'
    have : i - (A.map (·.map V.d)).length = 0 := by
      have := (List.getElem?_eq_some_iff.1 he).1
      simp at this ⊢; omega
    rw [this] at he he'
    simp at he he'
    subst he he'
    refine ⟨by rw [hl], fun j v v' hv hv' => ?_⟩
    have hj := (List.getElem?_eq_some_iff.1 hv).1
    have := hkk j hj
    rw [nth_eq, nth_eq, hv, hv'] at this
    refine ⟨this, ?_⟩
    obtain ⟨d, _, rfl⟩ := List.mem_map.1 (List.mem_of_getElem? hv')
    rfl

/-- slots are forgotten -/
def wkA : List V → List V → Prop
  | [], [] => True
  | _ :: l, .any :: k => wkA l k
  | x :: l, y :: k => x = y ∧ wkA l k
  | [], _ :: _ => False
  | _ :: _, [] => False

theorem wkA_nth {l k : List V} (h : wkA l k) : k.length = l.length ∧ ∀ i, nth k i = .any ∨ nth l i = nth k i := by
  induction l generalizing k with
  | nil => cases k with
    | nil => exact ⟨rfl, fun _ => .inl rfl⟩
    | cons y k => exact h.elim
  | cons x l ih => cases k with
    | nil => exact h.elim
    | cons y k =>
      have h' : (y = .any ∨ x = y) ∧ wkA l k := by
        cases y with
        | any => exact ⟨.inl rfl, h⟩
        | _ => exact ⟨.inr h.1, h.2⟩
      obtain ⟨h1, h2⟩ := ih h'.2
      refine ⟨by simp [h1], fun i => ?_⟩
      cases i with
      | zero => exact h'.1
      | succ i => exact h2 i

theorem weak_any {b0 : Nat} {fr fr' : List V} {rows : Rows} (h : wkA fr fr') : Weak b0 ⟨fr, rows⟩ ⟨fr', rows⟩ := by
  rintro c0 a w - ⟨ρ, I, ok, hx, hd, hl, hf⟩
  obtain ⟨h1, h2⟩ := wkA_nth h
  refine ⟨ρ, I, ok, hx, hd, by simp only; rw [h1]; exact hl, fun i => ?_⟩
  rcases h2 i with h | h
  · simp only; rw [h]; exact .any _
  · simp only; rw [← h]; exact hf i

/-- an empty slice becomes a row of its own -/
theorem weak_nils {b0 : Nat} {fr : List V} {rows : Rows} (i sz : Nat) (hv : nth fr i = .d .nils) : Weak b0 ⟨fr, rows⟩ ⟨setN fr i (.osl sz rows.length 0 0 0), rows ++ [.live sz []]⟩ := by
  rintro c0 a w - h
  obtain ⟨ρ, I, ok, hx, hd, hl, hf⟩ := h.grow 1
  have hu : (rows ++ List.replicate 1 RowS.un)[rows.length]? = some .un := by simp
  have hv2 := virt_ok ok rows.length sz hu
  have hset : (rows ++ List.replicate 1 RowS.un).set rows.length (.live sz []) = rows ++ [.live sz []] := by simp
  simp only [St.grow] at hv2
  rw [hset] at hv2
  refine ⟨ρ, I, hv2.1, hx.trans hv2.2, hd.mono hv2.2, by simpa [setN_length, St.grow] using hl, fun j => ?_⟩
  simp only [nth_setN]
  split
  · rename_i hij
    obtain ⟨rfl, hj⟩ := hij
    have hr := hf i
    simp only [St.grow] at hr
    rw [hv] at hr
    generalize a.tmps.getD i undef = u at hr ⊢
    cases hr with | d _ _ hr =>
    cases hr
    refine .oslVirt sz rows.length (by simp) ?_
    have : ρ rows.length = none := ok.rho_none (by simp [St.grow])
    exact this
  · exact (hf j).mono hv2.2 ok

theorem Weak.trans {b0 : Nat} {A B C : St} (h1 : Weak b0 A B) (h2 : Weak b0 B C) : Weak b0 A C := fun c0 a w hb h => h2 c0 a w hb (h1 c0 a w hb h)
theorem Weak.refl {b0 : Nat} {A : St} : Weak b0 A A := fun _ _ _ _ h => h

end

/-- a frame of n slots, of which some are said -/
def mkF (n : Nat) (l : List (Nat × V)) : List V := l.foldl (fun fr p => setN fr p.1 p.2) (List.replicate n .any)

def loopS {σ : Type} (b0 : Nat) (Q : AX → St → Prop) (F : σ → St) (inv : σ → Prop) (mu : σ → Nat) (s : σ) : AX → St → Prop := fun e S' =>
  match e with
  | .normal => ∃ s', mu s' < mu s ∧ Weak b0 S' (F s') ∧ inv s'
  | .exit i => Q (.exit i) S'
  | .ret => Q .ret S'
section
variable [CtxPred] {P : Program} {b0 : Nat} {Q : AX → St → Prop} {σ : Type} {F : σ → St} {inv : σ → Prop} {mu : σ → Nat} {s : σ}
theorem ls_e {i : Nat} {S : St} : loopS b0 Q F inv mu s (.exit i) S = Q (.exit i) S := rfl
theorem ls_r {S : St} : loopS b0 Q F inv mu s .ret S = Q .ret S := rfl
theorem loop_st {a : AC} {S : St} (F : σ → St) (inv : σ → Prop) (mu : σ → Nat) (s0 : σ) (hw : Weak b0 S (F s0)) (hi : inv s0) (hr : ∀ s, inv s → wpC P b0 a (loopS b0 Q F inv mu s) (F s)) : wpC P b0 (.loop a) Q S := by
  refine ⟨fun n S => ∃ s, n = mu s ∧ S = F s ∧ inv s, mu s0, F s0, hw, ⟨s0, rfl, rfl, hi⟩, ?_⟩
  rintro n S ⟨s, rfl, rfl, hi⟩
  refine cast (congrFun (congrArg (wpC P b0 a) ?_) _) (hr s hi)
  funext e S'
  cases e with
  | normal =>
    simp only [loopS, eq_iff_iff]
    constructor
    · rintro ⟨s', h1, h2, h3⟩; exact ⟨_, _, h1, h2, s', rfl, rfl, h3⟩
    · rintro ⟨n', S'', h1, h2, s', rfl, rfl, h3⟩; exact ⟨s', h1, h2, h3⟩
  | exit i => rfl
  | ret => rfl
theorem ls_n {S : St} (s' : σ) (hm : mu s' < mu s) (hw : Weak b0 S (F s')) (hi : inv s') : loopS b0 Q F inv mu s .normal S := ⟨s', hm, hw, hi⟩
theorem wk_in {a : AC} {S : St} (S' : St) (hw : Weak b0 S S') (h : wpC P b0 a Q S') : wpC P b0 (.wk a) Q S := ⟨S', hw, h⟩
end

end Go.Vx

namespace Go.Vx
section
variable {κ : KV} {k k' : IntKind} {a b : Int} {s t : List UInt8} {p : Bool}
theorem b_add : binA .add (.d (.int k a)) (.d (.int k b)) κ = κ (.d (.int k (k.wrap (a + b)))) [] := by simp [binA, binW, binI]
theorem b_sub : binA .sub (.d (.int k a)) (.d (.int k b)) κ = κ (.d (.int k (k.wrap (a - b)))) [] := by simp [binA, binW, binI]
theorem b_mul : binA .mul (.d (.int k a)) (.d (.int k b)) κ = κ (.d (.int k (k.wrap (a * b)))) [] := by simp [binA, binW, binI]
theorem b_quo : binA .quo (.d (.int k a)) (.d (.int k b)) κ = (b ≠ 0 ∧ κ (.d (.int k (k.wrap (a.tdiv b)))) []) := by simp [binA, binW, binI]
theorem b_rem : binA .rem (.d (.int k a)) (.d (.int k b)) κ = (b ≠ 0 ∧ κ (.d (.int k (a.tmod b))) []) := by simp [binA, binW, binI]
theorem b_and : binA .and (.d (.int k a)) (.d (.int k b)) κ = κ (.d (.int k (k.wrap ((BitVec.ofInt k.bits a &&& BitVec.ofInt k.bits b).toNat)))) [] := by simp [binA, binW, binI]
theorem b_or : binA .or (.d (.int k a)) (.d (.int k b)) κ = κ (.d (.int k (k.wrap ((BitVec.ofInt k.bits a ||| BitVec.ofInt k.bits b).toNat)))) [] := by simp [binA, binW, binI]
theorem b_xor : binA .xor (.d (.int k a)) (.d (.int k b)) κ = κ (.d (.int k (k.wrap ((BitVec.ofInt k.bits a ^^^ BitVec.ofInt k.bits b).toNat)))) [] := by simp [binA, binW, binI]
theorem b_andNot : binA .andNot (.d (.int k a)) (.d (.int k b)) κ = κ (.d (.int k (k.wrap ((BitVec.ofInt k.bits a &&& ~~~ BitVec.ofInt k.bits b).toNat)))) [] := by simp [binA, binW, binI]
theorem b_eql : binA .eql (.d (.int k a)) (.d (.int k b)) κ = κ (.d (.bool (decide (a = b)))) [] := by simp [binA, binW, binI]
theorem b_neq : binA .neq (.d (.int k a)) (.d (.int k b)) κ = κ (.d (.bool (decide (a ≠ b)))) [] := by simp [binA, binW, binI]
theorem b_lss : binA .lss (.d (.int k a)) (.d (.int k b)) κ = κ (.d (.bool (decide (a < b)))) [] := by simp [binA, binW, binI]
theorem b_leq : binA .leq (.d (.int k a)) (.d (.int k b)) κ = κ (.d (.bool (decide (a ≤ b)))) [] := by simp [binA, binW, binI]
theorem b_gtr : binA .gtr (.d (.int k a)) (.d (.int k b)) κ = κ (.d (.bool (decide (b < a)))) [] := by simp [binA, binW, binI]
theorem b_geq : binA .geq (.d (.int k a)) (.d (.int k b)) κ = κ (.d (.bool (decide (b ≤ a)))) [] := by simp [binA, binW, binI]
theorem b_shl : binA .shl (.d (.int k a)) (.d (.int k' b)) κ = (0 ≤ b ∧ κ (.d (.int k (k.wrap (a * 2 ^ (min b.toNat k.bits))))) []) := by simp [binA, binW, binI]
theorem b_shr : binA .shr (.d (.int k a)) (.d (.int k' b)) κ = (0 ≤ b ∧ κ (.d (.int k (a / (2 ^ (min b.toNat k.bits))))) []) := by simp [binA, binW, binI]
theorem s_add : binA .add (.d (.str s)) (.d (.str t)) κ = (s.length + t.length ≤ 9223372036854775807 ∧ κ (.d (.str (s ++ t))) []) := by simp [binA, binW, binS]
theorem s_eql : binA .eql (.d (.str s)) (.d (.str t)) κ = κ (.d (.bool (decide (s = t)))) [] := by simp [binA, binW, binS]
theorem s_neq : binA .neq (.d (.str s)) (.d (.str t)) κ = κ (.d (.bool (decide (s ≠ t)))) [] := by simp [binA, binW, binS]
theorem s_lss : binA .lss (.d (.str s)) (.d (.str t)) κ = κ (.d (.bool (Op.bytesLess s t))) [] := by simp [binA, binW, binS]
theorem s_leq : binA .leq (.d (.str s)) (.d (.str t)) κ = κ (.d (.bool (Op.bytesLess s t || decide (s = t)))) [] := by simp [binA, binW, binS]
theorem s_gtr : binA .gtr (.d (.str s)) (.d (.str t)) κ = κ (.d (.bool (!(Op.bytesLess s t || decide (s = t))))) [] := by simp [binA, binW, binS]
theorem s_geq : binA .geq (.d (.str s)) (.d (.str t)) κ = κ (.d (.bool (!Op.bytesLess s t))) [] := by simp [binA, binW, binS]
theorem u_neg : unA .neg (.d (.int k a)) κ = κ (.d (.int k (k.wrap (0 - a)))) [] := by simp [unA, unW]
theorem u_xor : unA .xor (.d (.int k a)) κ = κ (.d (.int k (k.wrap ((BitVec.ofInt k.bits (if k.signed then -1 else k.max) ^^^ BitVec.ofInt k.bits a).toNat)))) [] := by simp [unA, unW]
theorem u_not : unA .not (.d (.bool p)) κ = κ (.d (.bool (!p))) [] := by simp [unA, unW]
end

theorem cells_agg {cs : List V} {sz : Nat} {f : List V → Prop} : cellsW (.agg cs) sz f = (cs.length = sz ∧ cs.all oneV = true ∧ f cs) := by
  simp only [cellsW, List.all_eq_true]
theorem cells_d {x : D} {sz : Nat} {f : List V → Prop} : cellsW (.d x) sz f = (sz = 1 ∧ f [.d x]) := rfl
theorem cells_osl {a b c d e sz : Nat} {f : List V → Prop} : cellsW (.osl a b c d e) sz f = (sz = 1 ∧ f [.osl a b c d e]) := rfl
theorem cells_optr {a b c d e sz : Nat} {f : List V → Prop} : cellsW (.optr a b c d e) sz f = (sz = 1 ∧ f [.optr a b c d e]) := rfl
theorem cells_fn {g : Fn} {a b : List V} {sz : Nat} {f : List V → Prop} : cellsW (.fn g a b) sz f = (sz = 1 ∧ f [.fn g a b]) := rfl

theorem ev_t {fr : List V} {i : Nat} : Opd.ev fr (.t i) = nth fr i := rfl
theorem ev_k {fr : List V} {v : V} : Opd.ev fr (.k v) = v := rfl
theorem nth_z {x : V} {l : List V} : nth (x :: l) 0 = x := rfl
theorem nth_s {x : V} {l : List V} {n : Nat} : nth (x :: l) (n + 1) = nth l n := rfl
theorem set_z {x v : V} {l : List V} : setN (x :: l) 0 v = v :: l := rfl
theorem set_s {x v : V} {l : List V} {n : Nat} : setN (x :: l) (n + 1) v = x :: setN l n v := rfl
theorem put_s {fr : List V} {d : Nat} {v : V} : putV fr (some d) v = setN fr d v := rfl
theorem put_n {fr : List V} {v : V} : putV fr none v = fr := rfl
theorem sr_n {rows : Rows} : setRows rows [] = rows := rfl
theorem sr_c {rows : Rows} {h : Nat} {r : RowS} {l : List (Nat × RowS)} : setRows rows ((h, r) :: l) = setRows (setAt rows h r) l := by
  rw [setRows]; congr 1
  induction rows generalizing h with
  | nil => rfl
  | cons x rows ih => cases h with
    | zero => rfl
    | succ h => simp [setAt, ih]
theorem sa_z {x r : RowS} {l : Rows} : setAt (x :: l) 0 r = r :: l := rfl
theorem sa_s {x r : RowS} {l : Rows} {n : Nat} : setAt (x :: l) (n + 1) r = x :: setAt l n r := rfl

theorem wr_i64 {n : Int} (h : -9223372036854775808 ≤ n) (h' : n ≤ 9223372036854775807) : IntKind.i64.wrap n = n := by
  rw [IntKind.wrap_i64]; omega
theorem wr_u64 {n : Int} (h : 0 ≤ n) (h' : n ≤ 18446744073709551615) : IntKind.u64.wrap n = n := by
  rw [IntKind.wrap_u64]; omega
theorem wr_u16 {n : Int} (h : 0 ≤ n) (h' : n ≤ 65535) : IntKind.u16.wrap n = n := by
  rw [IntKind.wrap_u16]; omega
theorem wr_u8 {n : Int} (h : 0 ≤ n) (h' : n ≤ 255) : IntKind.u8.wrap n = n := by
  rw [IntKind.wrap_u8]; omega
theorem wr_u32 {n : Int} (h : 0 ≤ n) (h' : n ≤ 4294967295) : IntKind.u32.wrap n = n := by
  rw [IntKind.wrap_u32]; omega

end Go.Vx
