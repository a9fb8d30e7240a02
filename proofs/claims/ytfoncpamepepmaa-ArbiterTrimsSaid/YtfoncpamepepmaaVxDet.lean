import Derived.Test.YtfoncpamepepmaaVxRun
set_option linter.unusedSimpArgs false
set_option linter.unusedVariables false
namespace Go.Vx

/-- A predicate transformer that comes to one value. -/
structure DM {α : Type} (F : (α → Prop) → Prop) : Prop where
  mono : ∀ K K' : α → Prop, (∀ a, K a → K' a) → F K → F K'
  det : ∀ K : α → Prop, F K → ∃ a, F (fun x => x = a) ∧ K a

section
variable {α β : Type}

theorem dm_ret (a : α) : DM (fun K : α → Prop => K a) := ⟨fun _ _ h hk => h _ hk, fun _ h => ⟨a, rfl, h⟩⟩
theorem dm_false : DM (fun _ : α → Prop => False) := ⟨fun _ _ _ h => h, fun _ h => h.elim⟩
theorem dm_and {p : Prop} {F : (α → Prop) → Prop} (h : DM F) : DM (fun K => p ∧ F K) :=
  ⟨fun _ _ hk hp => ⟨hp.1, h.mono _ _ hk hp.2⟩, fun K hp => let ⟨a, h1, h2⟩ := h.det K hp.2; ⟨a, ⟨hp.1, h1⟩, h2⟩⟩
theorem dm_bind {F : (β → Prop) → Prop} {G : β → (α → Prop) → Prop} (hF : DM F) (hG : ∀ b, DM (G b)) : DM (fun K => F (fun b => G b K)) :=
  ⟨fun _ _ hk h => hF.mono _ _ (fun b => (hG b).mono _ _ hk) h, fun K h => by
    obtain ⟨b, h1, h2⟩ := hF.det _ h
    obtain ⟨a, h3, h4⟩ := (hG b).det _ h2
    exact ⟨a, hF.mono _ _ (fun x hx => by subst hx; exact h3) h1, h4⟩⟩
theorem dm_some {o : Option β} {p : Prop} (hp : p → ∃ e, o = some e) {G : β → (α → Prop) → Prop} (hG : ∀ b, DM (G b)) : DM (fun K => p ∧ ∀ e, o = some e → G e K) :=
  ⟨fun _ _ hk h => ⟨h.1, fun e he => (hG e).mono _ _ hk (h.2 e he)⟩, fun K h => by
    obtain ⟨e, he⟩ := hp h.1
    obtain ⟨a, h1, h2⟩ := (hG e).det _ (h.2 e he)
    exact ⟨a, ⟨h.1, fun e' he' => by rw [he] at he'; injection he' with he'; subst he'; exact h1⟩, h2⟩⟩
theorem dm_get {l : List β} {i : Nat} {G : β → (α → Prop) → Prop} (hG : ∀ b, DM (G b)) : DM (fun K => i < l.length ∧ ∀ e, l[i]? = some e → G e K) :=
  dm_some (fun h => ⟨_, List.getElem?_eq_getElem h⟩) hG
theorem dm_congr {F G : (α → Prop) → Prop} (h : ∀ K, F K ↔ G K) (hF : DM F) : DM G :=
  ⟨fun K K' hk hg => (h K').1 (hF.mono K K' hk ((h K).2 hg)), fun K hg => let ⟨a, h1, h2⟩ := hF.det K ((h K).2 hg); ⟨a, (h _).1 h1, h2⟩⟩

theorem dm_live {rows : Rows} {h sz n : Nat} {G : List (List V) → (α → Prop) → Prop} (hG : ∀ b, DM (G b)) : DM (fun K => LiveN rows h sz n ∧ ∀ es, rows[h]? = some (.live sz es) → G es K) :=
  ⟨fun _ _ hk h => ⟨h.1, fun e he => (hG e).mono _ _ hk (h.2 e he)⟩, fun K hh => by
    obtain ⟨es, he, hn⟩ := hh.1
    obtain ⟨a, h1, h2⟩ := (hG es).det _ (hh.2 es he)
    exact ⟨a, ⟨hh.1, fun e' he' => by rw [he] at he'; injection he' with he'; injection he' with _ he'; subst he'; exact h1⟩, h2⟩⟩

theorem dm_binI (op : BinOp) (k : IntKind) (a b : Int) : DM (binI op k a b) := by
  show DM (fun K => binI op k a b K)
  cases op <;> simp only [binI] <;> first | exact dm_ret _ | exact dm_and (dm_ret _) | exact dm_false
theorem dm_binS (op : BinOp) (a b : List UInt8) : DM (binS op a b) := by
  show DM (fun K => binS op a b K)
  cases op <;> simp only [binS] <;> first | exact dm_ret _ | exact dm_and (dm_ret _) | exact dm_false
theorem dm_binW (op : BinOp) (x y : V) : DM (binW op x y) := by
  have e : ∀ K, binW op x y K = binW op x y K := fun _ => rfl
  unfold binW
  split
  · split
    · exact dm_and (dm_ret _)
    · exact dm_and (dm_ret _)
    · exact dm_and (dm_binI _ _ _ _)
  · exact dm_binS _ _ _
  · exact dm_false
theorem dm_unW (op : UnOp) (x : V) : DM (unW op x) := by
  unfold unW
  split <;> first | exact dm_ret _ | exact dm_false
theorem dm_cellsW (v : V) (sz : Nat) : DM (cellsW v sz) := by
  unfold cellsW
  split <;> first | exact dm_and (dm_and (dm_ret _)) | exact dm_and (dm_ret _) | exact dm_false
theorem dm_partsW (ev : Opd → V) : ∀ (ps : List (Nat × Nat × Opd)) (cells : List V), DM (partsW ev ps cells)
  | [], cells => dm_ret _
  | (off, sz, x) :: ps, cells => by
    show DM (fun K => partsW ev ((off, sz, x) :: ps) cells K)
    simp only [partsW]
    exact dm_and (dm_bind (dm_cellsW _ _) fun cs => dm_partsW ev ps _)
theorem dm_partsSl (ev : Opd → V) (sz : Nat) : ∀ (ps : List (Nat × Opd)) (es : List (List V)), DM (partsSl ev sz ps es)
  | [], cells => dm_ret _
  | (i, x) :: ps, es => by
    show DM (fun K => partsSl ev sz ((i, x) :: ps) es K)
    simp only [partsSl]
    exact dm_and (dm_bind (dm_cellsW _ _) fun cs => dm_partsSl ev sz ps _)
theorem dm_intW (v : V) : DM (intW v) := by
  unfold intW
  split <;> first | exact dm_ret _ | exact dm_false
theorem dm_bndW (ev : Opd → V) (o : Option Opd) (d : Int) : DM (bndW ev o d) := by
  unfold bndW
  split
  · exact dm_ret _
  · exact dm_intW _
theorem dm_elemsW (rows : Rows) (sz : Nat) (v : V) : DM (elemsW rows sz v) := by
  unfold elemsW
  split
  · exact dm_ret _
  · exact dm_and (dm_ret _)
  · exact dm_and (dm_ret _)
  · refine dm_and ?_
    exact dm_live fun es => dm_ret _
  · exact dm_false

end

theorem dm_opW (o : AOp) (ev : Opd → V) (rows : Rows) (hf : Nat) : DM (fun K : V × List (Nat × RowS) → Prop => opW o ev rows hf fun v u => K (v, u)) := by
  cases o with
  | mov x => exact dm_ret _
  | pick c a b => simp only [opW]; split <;> first | exact dm_ret _ | exact dm_false
  | nilck x => simp only [opW]; split <;> first | exact dm_ret _ | exact dm_and (dm_ret _) | exact dm_false
  | bin op x y => simp only [opW]; exact dm_bind (dm_binW _ _ _) fun _ => dm_ret _
  | eqB neg x y => simp only [opW]; split <;> first | exact dm_ret _ | exact dm_false
  | eqS neg ks x y =>
    simp only [opW]
    split
    · rename_i a b _ _
      unfold eqR
      generalize eqC ks a b = r
      cases r with
      | none => exact dm_false
      | some r => exact dm_ret _
    · exact dm_false
  | isNil neg x y => simp only [opW]; split <;> first | exact dm_ret _ | exact dm_false
  | un op x => simp only [opW]; exact dm_bind (dm_unW _ _) fun _ => dm_ret _
  | conv k x => simp only [opW]; split <;> first | exact dm_ret _ | exact dm_false
  | same x => simp only [opW]; split <;> first | exact dm_ret _ | exact dm_false
  | s2b x => simp only [opW]; split <;> first | exact dm_ret _ | exact dm_false
  | b2s x => simp only [opW]; exact dm_and (dm_bind (dm_elemsW _ _ _) fun _ => dm_and (dm_ret _))
  | alloc zero => exact dm_ret _
  | box sz x => simp only [opW]; exact dm_bind (dm_cellsW _ _) fun _ => dm_ret _
  | build zero ps => simp only [opW]; exact dm_bind (dm_partsW _ _ _) fun _ => dm_ret _
  | buildSl sz len zero ps => simp only [opW]; exact dm_bind (dm_partsSl _ _ _ _) fun _ => dm_ret _
  | load agg sz a =>
    simp only [opW]
    split
    · cases agg with
      | true => exact dm_and (dm_ret _)
      | false => exact dm_get fun _ => dm_ret _
    · rename_i s h n i off e
      have key : DM (fun K : V × List (Nat × RowS) → Prop => LiveN rows h s n ∧ ∀ es, rows[h]? = some (.live s es) → (es.length = n ∧ off + sz ≤ s) ∧ (i < es.length ∧ ∀ e, es[i]? = some e →
          match agg with
          | true => K (.agg ((e.drop off).take sz), [])
          | false => sz = 1 ∧ off < e.length ∧ ∀ x, e[off]? = some x → K (x, []))) := by
        refine dm_live fun es => dm_and (dm_get fun e => ?_)
        cases agg with
        | true => exact dm_ret _
        | false => exact dm_and (dm_get fun _ => dm_ret _)
      refine dm_congr (fun K => ?_) key
      constructor
      · rintro ⟨h1, h2⟩
        obtain ⟨es0, he0, hn0⟩ := h1
        obtain ⟨⟨h3, h4⟩, h5, h6⟩ := h2 es0 he0
        refine ⟨⟨es0, he0, hn0⟩, by omega, h4, fun es e he hi => ?_⟩
        rw [he0] at he; injection he with he; injection he with _ he; subst he
        exact h6 e hi
      · rintro ⟨h1, h2, h3, h4⟩
        refine ⟨h1, fun es he => ⟨⟨?_, h3⟩, ?_, fun e hi => h4 es e he hi⟩⟩ <;>
        · obtain ⟨es0, he0, hn0⟩ := h1
          rw [he0] at he; injection he with he; injection he with _ he; subst he
          omega
    · exact dm_false
  | store sz a x =>
    simp only [opW]
    split
    · rename_i s h n i off e
      have key : DM (fun K : V × List (Nat × RowS) → Prop => LiveN rows h s n ∧ ∀ es, rows[h]? = some (.live s es) → (es.length = n ∧ off + sz ≤ s) ∧ (i < es.length ∧ ∀ e, es[i]? = some e →
          cellsW (ev x) sz fun cs => K (.any, [(h, .live s (es.set i (setR e off cs)))]))) :=
        dm_live fun es => dm_and (dm_get fun e => dm_bind (dm_cellsW _ _) fun _ => dm_ret _)
      refine dm_congr (fun K => ?_) key
      constructor
      · rintro ⟨h1, h2⟩
        obtain ⟨es0, he0, hn0⟩ := h1
        obtain ⟨⟨h3, h4⟩, h5, h6⟩ := h2 es0 he0
        refine ⟨⟨es0, he0, hn0⟩, by omega, h4, ?_⟩
        refine (dm_cellsW _ _).mono _ _ (fun cs hcs => ?_) (h6 _ (List.getElem?_eq_getElem h5))
        intro es e he hi
        rw [he0] at he; injection he with he; injection he with _ he; subst he
        rw [List.getElem?_eq_getElem h5] at hi; injection hi with hi; subst hi
        exact hcs
      · rintro ⟨h1, h2, h3, h4⟩
        refine ⟨h1, fun es he => ⟨⟨?_, h3⟩, ?_, fun e hi => (dm_cellsW _ _).mono _ _ (fun cs hcs => hcs es e he hi) h4⟩⟩ <;>
        · obtain ⟨es0, he0, hn0⟩ := h1
          rw [he0] at he; injection he with he; injection he with _ he; subst he
          omega
    · exact dm_false
  | mksl sz bytes zero l c => simp only [opW]; exact dm_bind (dm_intW _) fun _ => dm_bind (dm_intW _) fun _ => dm_and (dm_and (dm_and (dm_and (dm_ret _))))
  | slice sz x lo hi =>
    simp only [opW]
    split
    · exact dm_and (dm_bind (dm_bndW _ _ _) fun _ => dm_bind (dm_bndW _ _ _) fun _ => dm_and (dm_and (dm_ret _)))
    · exact dm_and (dm_and (dm_bind (dm_bndW _ _ _) fun _ => dm_bind (dm_bndW _ _ _) fun _ => dm_and (dm_and (dm_and (dm_ret _)))))
    · exact dm_and (dm_bind (dm_bndW _ _ _) fun _ => dm_bind (dm_bndW _ _ _) fun _ => dm_and (dm_and (dm_and (dm_ret _))))
    · exact dm_and (dm_and (dm_and (dm_bind (dm_bndW _ _ _) fun _ => dm_bind (dm_bndW _ _ _) fun _ => dm_and (dm_and (dm_and (dm_ret _))))))
    · exact dm_false
  | fldA off x => simp only [opW]; split <;> first | exact dm_ret _ | exact dm_and (dm_ret _) | exact dm_false
  | fld off sz agg x =>
    simp only [opW]
    split
    · cases agg with
      | true => exact dm_and (dm_ret _)
      | false => exact dm_get fun _ => dm_ret _
    · exact dm_false
  | idxA sz arr x i =>
    simp only [opW]
    refine dm_bind (dm_intW _) fun j => ?_
    split
    · rename_i s es e
      have key : DM (fun K : V × List (Nat × RowS) → Prop => s = sz ∧ (0 ≤ j) ∧ ((j < es.length) ∧ ∀ e, es[j.toNat]? = some e → K (.d (.ptr e), []))) :=
        dm_and ⟨fun _ _ hk h => ⟨h.1, h.2.1, fun e he => hk _ (h.2.2 e he)⟩, fun K h => by
          have hl : j.toNat < es.length := by have := h.1; have := h.2.1; omega
          exact ⟨_, ⟨h.1, h.2.1, fun e he => by rw [List.getElem?_eq_getElem hl] at he; injection he with he; subst he; rfl⟩, h.2.2 _ (List.getElem?_eq_getElem hl)⟩⟩
      exact key
    · exact dm_and (dm_and (dm_and (dm_and (dm_ret _))))
    · exact dm_and (dm_and (dm_ret _))
    · exact dm_and (dm_and (dm_and (dm_ret _)))
    · exact dm_false
  | idx sz n agg x i =>
    simp only [opW]
    refine dm_bind (dm_intW _) fun j => ?_
    split
    · rename_i cs e
      cases agg with
      | true => exact dm_and (dm_and (dm_and (dm_ret _)))
      | false =>
        refine ⟨fun _ _ hk h => ⟨h.1, h.2.1, h.2.2.1, h.2.2.2.1, fun e he => hk _ (h.2.2.2.2 e he)⟩, fun K h => ?_⟩
        obtain ⟨h1, h2, h3, h4, h5⟩ := h
        have hl : j.toNat < cs.length := by subst h4; omega
        exact ⟨_, ⟨h1, h2, h3, h4, fun e he => by rw [List.getElem?_eq_getElem hl] at he; injection he with he; subst he; rfl⟩, h5 _ (List.getElem?_eq_getElem hl)⟩
    · exact dm_false
  | idxS x i =>
    simp only [opW]
    refine dm_bind (dm_intW _) fun j => ?_
    split
    · rename_i s e
      refine ⟨fun _ _ hk h => ⟨h.1, h.2.1, fun e he => hk _ (h.2.2 e he)⟩, fun K h => ?_⟩
      have hl : j.toNat < s.length := by have := h.1; have := h.2.1; omega
      exact ⟨_, ⟨h.1, h.2.1, fun e he => by rw [List.getElem?_eq_getElem hl] at he; injection he with he; subst he; rfl⟩, h.2.2 _ (List.getElem?_eq_getElem hl)⟩
    · exact dm_false
  | ext x i =>
    simp only [opW]
    split
    · exact dm_get fun _ => dm_ret _
    · exact dm_false
  | mkfn f a b => exact dm_ret _
  | len str x => simp only [opW]; split <;> first | exact dm_ret _ | exact dm_and (dm_ret _) | exact dm_false
  | append sz bytes s x =>
    simp only [opW]
    refine dm_bind (dm_elemsW _ _ _) fun xs => ?_
    split
    · exact dm_and (dm_ret _)
    · rename_i s h n off len e
      have key : DM (fun K : V × List (Nat × RowS) → Prop => (s = sz ∧ off = 0 ∧ len = n ∧ (n + xs.length) * bytes ≤ maxBytes) ∧ (LiveN rows h sz n ∧ ∀ es, rows[h]? = some (.live sz es) → K (.osl sz h (n + xs.length) 0 (n + xs.length), [(h, .live sz (es ++ xs))]))) :=
        dm_and (dm_live fun es => dm_ret _)
      refine dm_congr (fun K => ?_) key
      constructor
      · rintro ⟨⟨a, b, c, d⟩, e, f⟩; exact ⟨a, b, c, e, d, f⟩
      · rintro ⟨a, b, c, e, d, f⟩; exact ⟨⟨a, b, c, d⟩, e, f⟩
    · exact dm_false
  | copy sz d s =>
    simp only [opW]
    refine dm_bind (dm_elemsW _ _ _) fun xs => ?_
    split
    · exact dm_ret _
    · exact dm_and (dm_live fun es => dm_ret _)
    · exact dm_false
  | mn x y => simp only [opW]; split <;> first | exact dm_ret _ | exact dm_false
  | mx x y => simp only [opW]; split <;> first | exact dm_ret _ | exact dm_false

end Go.Vx
