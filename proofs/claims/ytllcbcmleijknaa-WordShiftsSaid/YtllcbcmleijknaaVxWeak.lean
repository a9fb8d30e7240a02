import Derived.Test.YtllcbcmleijknaaVxSimp
set_option linter.unusedSimpArgs false
set_option linter.unusedVariables false
namespace Go.Vx

mutual
/-- The handles of a value lie below m. -/
def hB (m : Nat) : V → Bool
  | .any => true
  | .d _ => true
  | .osl _ h _ _ _ => decide (h < m)
  | .optr _ h _ _ _ => decide (h < m)
  | .agg cs => hBL m cs
  | .tup vs => hBL m vs
  | .fn _ a b => hBL m a && hBL m b
def hBL (m : Nat) : List V → Bool
  | [] => true
  | v :: l => hB m v && hBL m l
end

theorem hBL_mem {m : Nat} {l : List V} (h : hBL m l = true) {v : V} (hv : v ∈ l) : hB m v = true := by
  induction l with
  | nil => cases hv
  | cons x l ih =>
    simp only [hBL, Bool.and_eq_true] at h
    rcases List.mem_cons.1 hv with rfl | hv
    · exact h.1
    · exact ih h.2 hv

theorem hBL_all {m : Nat} {l : List V} (h : ∀ v ∈ l, hB m v = true) : hBL m l = true := by
  induction l with
  | nil => rfl
  | cons x l ih =>
    simp only [hBL, Bool.and_eq_true]
    exact ⟨h x (by simp), ih fun v hv => h v (by simp [hv])⟩

def rowB (m : Nat) : RowS → Prop
  | .live _ es => ∀ e ∈ es, ∀ v ∈ e, hB m v = true
  | _ => True

def rowsB (m : Nat) : Rows → Prop
  | [] => True
  | r :: l => rowB m r ∧ rowsB m l

theorem rowsB_get {m : Nat} {rows : Rows} (h : rowsB m rows) {i : Nat} {r : RowS} (hr : rows[i]? = some r) : rowB m r := by
  induction rows generalizing i with
  | nil => simp at hr
  | cons x l ih => cases i with
    | zero => simp at hr; subst hr; exact h.1
    | succ i => exact ih h.2 (by simpa using hr)

theorem rowB_data {m sz : Nat} {es : List (List D)} : rowB m (.live sz (es.map (·.map .d))) := by
  intro e he v hv
  obtain ⟨e0, _, rfl⟩ := List.mem_map.1 he
  obtain ⟨d, _, rfl⟩ := List.mem_map.1 hv
  rfl

section
variable {c : Cx} {m : Nat}

/-- The rows from m on, alone. -/
def hiRows (m : Nat) (rows : Rows) : Rows := List.replicate (min m rows.length) .dead ++ rows.drop m

theorem hiRows_lt {rows : Rows} {h : Nat} (hh : h < m) : (hiRows m rows)[h]? = if h < rows.length then some .dead else none := by
  unfold hiRows
  by_cases hl : h < rows.length
  · rw [List.getElem?_append_left (by simp; omega), List.getElem?_replicate]
    simp [hl]; omega
  · rw [List.getElem?_append_right (by simp; omega)]
    simp only [hl, if_false]
    rw [List.getElem?_eq_none]
    simp; omega

theorem hiRows_ge {rows : Rows} {h : Nat} (hh : m ≤ h) : (hiRows m rows)[h]? = rows[h]? := by
  unfold hiRows
  rw [List.getElem?_append_right (by simp; omega)]
  simp only [List.length_replicate, List.getElem?_drop]
  by_cases hl : m ≤ rows.length
  · congr 1; omega
  · rw [List.getElem?_eq_none (by omega), List.getElem?_eq_none (by omega)]

def hiCx (m : Nat) (c : Cx) : Cx := ⟨fun h => if h < m then none else c.ρ h, c.I, hiRows m c.rows, c.w⟩

theorem hi_ext (c : Cx) : Ext c (hiCx m c) := by
  refine ⟨rfl, rfl, rfl, Nat.le_refl _, fun _ _ _ => rfl, fun _ h => h, fun _ h => .inl h, fun h b hb => ?_, fun h => ?_⟩
  · simp only [hiCx] at hb
    split at hb
    · cases hb
    · exact .inl hb
  · by_cases hh : h < m
    · unfold RowStep
      simp only [hiCx, hiRows_lt hh]
      cases hr : c.rows[h]? with
      | none => trivial
      | some r =>
        have := (List.getElem?_eq_some_iff.1 hr).1
        cases r with
        | un => exact ⟨_, by simp [this]; rfl⟩
        | dead => simp [this]
        | live sz es => exact .inl (by simp [this])
    · exact RowStep.of_eq (by simp only [hiCx]; rw [hiRows_ge (by omega)]) (by simp [hiCx, hh]) (fun _ _ => rfl)

theorem hi_ok (ok : Ok c) : Ok (hiCx m c) := by
  have hx := hi_ext (m := m) c
  refine ⟨fun h h' b h1 h2 => ?_, fun h b hb => ?_, fun h b sz es hb hr => ?_, fun h sz es hb hr => ?_, ok.imm⟩
  · simp only [hiCx] at h1 h2
    split at h1
    · cases h1
    · split at h2
      · cases h2
      · exact ok.inj _ _ _ h1 h2
  · simp only [hiCx] at hb ⊢
    split at hb
    · cases hb
    · obtain ⟨h1, h2, sz, es, h3⟩ := ok.own h b hb
      exact ⟨h1, h2, sz, es, by rw [hiRows_ge (by omega)]; exact h3⟩
  · simp only [hiCx] at hb hr ⊢
    split at hb
    · cases hb
    · rw [hiRows_ge (by omega)] at hr
      obtain ⟨arr, ty, fz, h1, h2, h3⟩ := ok.cont h b sz es hb hr
      exact ⟨arr, ty, fz, h1, h2, h3.mono hx ok⟩
  · simp only [hiCx] at hb hr
    by_cases hh : h < m
    · rw [hiRows_lt hh] at hr
      split at hr
      · injection hr with hr; cases hr
      · cases hr
    · rw [hiRows_ge (by omega)] at hr
      simp only [hh, if_false] at hb
      exact ok.virt _ _ _ hb hr

/-- The rows below m; those above are data now. -/
def loCx (m : Nat) (c : Cx) : Cx := ⟨fun h => if h < m then c.ρ h else none, seen (hiCx m c), c.rows.take m, c.w⟩

theorem take_get {rows : Rows} {h : Nat} (hh : h < m) : (rows.take m)[h]? = rows[h]? := by
  rw [List.getElem?_take, if_pos hh]

theorem lo_rep {u : Value} {v : V} (h : Rep c u v) (hv : hB m v = true) : Rep (loCx m c) u v := by
  induction h with
  | any v => exact .any v
  | d v x h => exact .d v x (h.mono (fun b hb => .inl hb) (fun _ _ => rfl))
  | osl sz h n off len cap b o es arr ty fz hrow hn hρ hb ho hcap hlc hlen =>
    simp only [hB, decide_eq_true_eq] at hv
    exact .osl sz h n off len cap b o es arr ty fz (by simp only [loCx]; rw [take_get hv]; exact hrow) hn (by simp [loCx, hv, hρ]) hb ho hcap hlc hlen
  | oslVirt sz h hrow hρ =>
    simp only [hB, decide_eq_true_eq] at hv
    exact .oslVirt sz h (by simp only [loCx]; rw [take_get hv]; exact hrow) (by simp [loCx, hρ])
  | oslStale v sz h n off len h1 hs =>
    simp only [hB, decide_eq_true_eq] at hv
    refine .oslStale v sz h n off len h1 ?_
    simp only [Stale, loCx] at hs ⊢
    rw [take_get hv]; exact hs
  | optr sz h n i off b es hrow hn hρ =>
    simp only [hB, decide_eq_true_eq] at hv
    exact .optr sz h n i off b es (by simp only [loCx]; rw [take_get hv]; exact hrow) hn (by simp [loCx, hv, hρ])
  | optrStale v sz h n i off h1 hs =>
    simp only [hB, decide_eq_true_eq] at hv
    refine .optrStale v sz h n i off h1 ?_
    simp only [Stale, loCx] at hs ⊢
    rw [take_get hv]; exact hs
  | agg vs cs hlen hrep ih =>
    simp only [hB] at hv
    exact .agg vs cs hlen fun j v x h1 h2 => ih j v x h1 h2 (hBL_mem hv (List.mem_of_getElem? h1))
  | tup vs cs hlen hrep ih =>
    simp only [hB] at hv
    exact .tup vs cs hlen fun j v x h1 h2 => ih j v x h1 h2 (hBL_mem hv (List.mem_of_getElem? h1))
  | fn f fs cps first cap hf hc hfr hcr ih1 ih2 =>
    simp only [hB, Bool.and_eq_true] at hv
    exact .fn f fs cps first cap hf hc (fun j v x h1 h2 => ih1 j v x h1 h2 (hBL_mem hv.1 (List.mem_of_getElem? h1))) (fun j v x h1 h2 => ih2 j v x h1 h2 (hBL_mem hv.2 (List.mem_of_getElem? h1)))

theorem lo_ok (ok : Ok c) (hb : rowsB m (c.rows.take m)) : Ok (loCx m c) := by
  refine ⟨fun h h' b h1 h2 => ?_, fun h b hb => ?_, fun h b sz es hbb hr => ?_, fun h sz es hbb hr => ?_, (seen_ok (hi_ok ok)).imm⟩
  · simp only [loCx] at h1 h2
    split at h1
    · split at h2
      · exact ok.inj _ _ _ h1 h2
      · cases h2
    · cases h1
  · simp only [loCx] at hb ⊢
    split at hb
    · rename_i hh
      obtain ⟨h1, h2, sz, es, h3⟩ := ok.own h b hb
      refine ⟨h1, fun hs => ?_, sz, es, by rw [take_get hh]; exact h3⟩
      rcases hs with hs | ⟨h', hs⟩
      · exact h2 hs
      · simp only [hiCx] at hs
        split at hs
        · cases hs
        · have := ok.inj _ _ _ hb hs; omega
    · cases hb
  · have hr' := hr
    simp only [loCx] at hbb hr
    split at hbb
    · rename_i hh
      have hrb := rowsB_get hb hr
      rw [take_get hh] at hr
      obtain ⟨arr, ty, fz, h1, h2, h3, h4, h5⟩ := ok.cont h b sz es hbb hr
      refine ⟨arr, ty, fz, h1, h2, h3, h4, fun i e j v h6 h7 => ?_⟩
      obtain ⟨x, h8, h9⟩ := h5 i e j v h6 h7
      exact ⟨x, h8, lo_rep h9 (hrb e (List.mem_of_getElem? h6) v (List.mem_of_getElem? h7))⟩
    · cases hbb
  · simp only [loCx] at hbb hr
    by_cases hh : h < m
    · rw [take_get hh] at hr
      simp only [hh, if_true] at hbb
      exact ok.virt _ _ _ hbb hr
    · rw [List.getElem?_eq_none (by simp; omega)] at hr
      cases hr

theorem lo_ext {c0 : Cx} (hx : Ext c0 c) (hm : c0.rows.length ≤ m) : Ext c0 (loCx m c) := by
  refine ⟨hx.os, hx.tape, hx.output, hx.size, hx.keep, fun b h => .inl (hx.imm b h), fun b h => ?_, fun h b hb => ?_, fun h => ?_⟩
  · rcases h with h | ⟨g, h⟩
    · exact hx.newI b h
    · simp only [hiCx] at h
      split at h
      · cases h
      · rcases hx.new g b h with h | h
        · exact .inr (.inr ⟨g, h⟩)
        · exact .inr (.inl h)
  · simp only [loCx] at hb
    split at hb
    · exact hx.new _ _ hb
    · cases hb
  · by_cases hh : h < m
    · have hr := hx.rows h
      unfold RowStep at hr ⊢
      simp only [loCx]
      rw [take_get hh]
      simp only [hh, if_true]
      exact hr
    · unfold RowStep
      rw [List.getElem?_eq_none (by omega)]
      trivial

/-- a slot that is kept, or that becomes data -/
inductive Kp (m : Nat) (rows : Rows) : V → V → Prop where
  | same (v : V) (h : hB m v = true) : Kp m rows v v
  | snap (v v' : V) (h : Snap (hiRows m rows) v v') : Kp m rows v v'

def kpL (m : Nat) (rows : Rows) : List V → List V → Prop
  | [], [] => True
  | a :: l, b :: k => Kp m rows a b ∧ kpL m rows l k
  | [], _ :: _ => False
  | _ :: _, [] => False

theorem kpL_nth {rows : Rows} {l k : List V} (h : kpL m rows l k) : k.length = l.length ∧ ∀ i, i < l.length → Kp m rows (nth l i) (nth k i) := by
  induction l generalizing k with
  | nil => cases k with
    | nil => exact ⟨rfl, by simp⟩
    | cons y k => exact h.elim
  | cons x l ih => cases k with
    | nil => exact h.elim
    | cons y k =>
      obtain ⟨h1, h2⟩ := ih h.2
      refine ⟨by simp [h1], fun i hi => ?_⟩
      cases i with
      | zero => exact h.1
      | succ i => exact h2 i (by simpa using hi)

/-- What lies in rows from m on becomes data, or is forgotten. -/
theorem weak_frz {b0 : Nat} {fr fr' : List V} {rows : Rows} (m : Nat) (hm : b0 ≤ m) (hrows : rowsB m (rows.take m)) (hk : kpL m rows fr fr') : Weak b0 ⟨fr, rows⟩ ⟨fr', rows.take m⟩ := by
  rintro c0 a w rfl ⟨ρ, I, ok, hx, hd, hl, hf⟩
  obtain ⟨hlen, hkk⟩ := kpL_nth hk
  refine ⟨_, _, lo_ok (m := m) ok hrows, lo_ext hx hm, hd, by simp only; rw [hlen]; exact hl, fun i => ?_⟩
  by_cases hi : i < fr.length
  · have hr := hf i
    simp only at hr ⊢
    have hq := hkk i hi
    generalize nth fr i = v at hr hq
    generalize nth fr' i = v' at hq ⊢
    cases hq with
    | same h => exact lo_rep (c := ⟨ρ, I, rows, w⟩) hr h
    | snap _ h => exact bare_lift (snap_rep (hi_ok (m := m) ok) h (hr.mono (hi_ext _) ok)) _ _
  · simp only
    rw [nth_none fr' i (by omega)]
    exact .any _

/-- slots are forgotten -/
def wkA : List V → List V → Prop
  | [], [] => True
  | _ :: l, .any :: k => wkA l k
  | x :: l, y :: k => x = y ∧ wkA l k
  | [], _ :: _ => False
  | _ :: _, [] => False

theorem wkA_nth {l k : List V} (h : wkA l k) : k.length = l.length ∧ ∀ i, nth k i = .any ∨ nth l i = nth k i := by
  induction l generalizing k with
  | nil => cases k with
    | nil => exact ⟨rfl, fun _ => .inl rfl⟩
    | cons y k => exact h.elim
  | cons x l ih => cases k with
    | nil => exact h.elim
    | cons y k =>
      have h' : (y = .any ∨ x = y) ∧ wkA l k := by
        cases y with
        | any => exact ⟨.inl rfl, h⟩
        | _ => exact ⟨.inr h.1, h.2⟩
      obtain ⟨h1, h2⟩ := ih h'.2
      refine ⟨by simp [h1], fun i => ?_⟩
      cases i with
      | zero => exact h'.1
      | succ i => exact h2 i

theorem weak_any {b0 : Nat} {fr fr' : List V} {rows : Rows} (h : wkA fr fr') : Weak b0 ⟨fr, rows⟩ ⟨fr', rows⟩ := by
  rintro c0 a w - ⟨ρ, I, ok, hx, hd, hl, hf⟩
  obtain ⟨h1, h2⟩ := wkA_nth h
  refine ⟨ρ, I, ok, hx, hd, by simp only; rw [h1]; exact hl, fun i => ?_⟩
  rcases h2 i with h | h
  · simp only; rw [h]; exact .any _
  · simp only; rw [← h]; exact hf i

/-- an empty slice becomes a row of its own -/
theorem weak_nils {b0 : Nat} {fr : List V} {rows : Rows} (i sz : Nat) (hv : nth fr i = .d .nils) : Weak b0 ⟨fr, rows⟩ ⟨setN fr i (.osl sz rows.length 0 0 0), rows ++ [.live sz []]⟩ := by
  rintro c0 a w - h
  obtain ⟨ρ, I, ok, hx, hd, hl, hf⟩ := h.grow 1
  have hu : (rows ++ List.replicate 1 RowS.un)[rows.length]? = some .un := by simp
  have hv2 := virt_ok ok rows.length sz hu
  have hset : (rows ++ List.replicate 1 RowS.un).set rows.length (.live sz []) = rows ++ [.live sz []] := by simp
  simp only [St.grow] at hv2
  rw [hset] at hv2
  refine ⟨ρ, I, hv2.1, hx.trans hv2.2, hd, by simpa [setN_length, St.grow] using hl, fun j => ?_⟩
  simp only [nth_setN]
  split
  · rename_i hij
    obtain ⟨rfl, hj⟩ := hij
    have hr := hf i
    simp only [St.grow] at hr
    rw [hv] at hr
    generalize a.tmps.getD i undef = u at hr ⊢
    cases hr with | d _ _ hr =>
    cases hr
    refine .oslVirt sz rows.length (by simp) ?_
    have : ρ rows.length = none := ok.rho_none (by simp [St.grow])
    exact this
  · exact (hf j).mono hv2.2 ok

theorem Weak.trans {b0 : Nat} {A B C : St} (h1 : Weak b0 A B) (h2 : Weak b0 B C) : Weak b0 A C := fun c0 a w hb h => h2 c0 a w hb (h1 c0 a w hb h)
theorem Weak.refl {b0 : Nat} {A : St} : Weak b0 A A := fun _ _ _ _ h => h

end

/-- a frame of n slots, of which some are said -/
def mkF (n : Nat) (l : List (Nat × V)) : List V := l.foldl (fun fr p => setN fr p.1 p.2) (List.replicate n .any)

def loopS {σ : Type} (b0 : Nat) (Q : AX → St → Prop) (F : σ → St) (inv : σ → Prop) (mu : σ → Nat) (s : σ) : AX → St → Prop := fun e S' =>
  match e with
  | .normal => ∃ s', mu s' < mu s ∧ Weak b0 S' (F s') ∧ inv s'
  | .exit i => Q (.exit i) S'
  | .ret => Q .ret S'
section
variable {P : Program} {b0 : Nat} {Q : AX → St → Prop} {σ : Type} {F : σ → St} {inv : σ → Prop} {mu : σ → Nat} {s : σ}
theorem ls_e {i : Nat} {S : St} : loopS b0 Q F inv mu s (.exit i) S = Q (.exit i) S := rfl
theorem ls_r {S : St} : loopS b0 Q F inv mu s .ret S = Q .ret S := rfl
theorem loop_st {a : AC} {S : St} (F : σ → St) (inv : σ → Prop) (mu : σ → Nat) (s0 : σ) (hw : Weak b0 S (F s0)) (hi : inv s0) (hr : ∀ s, inv s → wpC P b0 a (loopS b0 Q F inv mu s) (F s)) : wpC P b0 (.loop a) Q S := by
  refine ⟨fun n S => ∃ s, n = mu s ∧ S = F s ∧ inv s, mu s0, F s0, hw, ⟨s0, rfl, rfl, hi⟩, ?_⟩
  rintro n S ⟨s, rfl, rfl, hi⟩
  refine cast (congrFun (congrArg (wpC P b0 a) ?_) _) (hr s hi)
  funext e S'
  cases e with
  | normal =>
    simp only [loopS, eq_iff_iff]
    constructor
    · rintro ⟨s', h1, h2, h3⟩; exact ⟨_, _, h1, h2, s', rfl, rfl, h3⟩
    · rintro ⟨n', S'', h1, h2, s', rfl, rfl, h3⟩; exact ⟨s', h1, h2, h3⟩
  | exit i => rfl
  | ret => rfl
theorem ls_n {S : St} (s' : σ) (hm : mu s' < mu s) (hw : Weak b0 S (F s')) (hi : inv s') : loopS b0 Q F inv mu s .normal S := ⟨s', hm, hw, hi⟩
theorem wk_in {a : AC} {S : St} (S' : St) (hw : Weak b0 S S') (h : wpC P b0 a Q S') : wpC P b0 (.wk a) Q S := ⟨S', hw, h⟩
end

end Go.Vx
