import Derived.Test.YtkbjfoodikoppaaDoorVxRun
import Derived.Orders
import Derived.Tactics
import Derived.OrdersIn
import Derived.TacticsIn
import Derived.RangeFuncIn
import Derived.RangeFuncRecord
import Derived.RangeFuncLeaves
set_option linter.unusedSectionVars false
set_option linter.unusedSimpArgs false
set_option linter.unusedVariables false
namespace Go.Vx

/-- A predicate transformer that comes to one value. -/
structure DM {α : Type} (F : (α → Prop) → Prop) : Prop where
  mono : ∀ K K' : α → Prop, (∀ a, K a → K' a) → F K → F K'
  det : ∀ K : α → Prop, F K → ∃ a, F (fun x => x = a) ∧ K a

section
variable {α β : Type}

theorem dm_ret (a : α) : DM (fun K : α → Prop => K a) := ⟨fun _ _ h hk => h _ hk, fun _ h => ⟨a, rfl, h⟩⟩
theorem dm_false : DM (fun _ : α → Prop => False) := ⟨fun _ _ _ h => h, fun _ h => h.elim⟩
theorem dm_and {p : Prop} {F : (α → Prop) → Prop} (h : DM F) : DM (fun K => p ∧ F K) :=
  ⟨fun _ _ hk hp => ⟨hp.1, h.mono _ _ hk hp.2⟩, fun K hp => let ⟨a, h1, h2⟩ := h.det K hp.2; ⟨a, ⟨hp.1, h1⟩, h2⟩⟩
theorem dm_bind {F : (β → Prop) → Prop} {G : β → (α → Prop) → Prop} (hF : DM F) (hG : ∀ b, DM (G b)) : DM (fun K => F (fun b => G b K)) :=
  ⟨fun _ _ hk h => hF.mono _ _ (fun b => (hG b).mono _ _ hk) h, fun K h => by
    obtain ⟨b, h1, h2⟩ := hF.det _ h
    obtain ⟨a, h3, h4⟩ := (hG b).det _ h2
    exact ⟨a, hF.mono _ _ (fun x hx => by subst hx; exact h3) h1, h4⟩⟩
theorem dm_some {o : Option β} {p : Prop} (hp : p → ∃ e, o = some e) {G : β → (α → Prop) → Prop} (hG : ∀ b, DM (G b)) : DM (fun K => p ∧ ∀ e, o = some e → G e K) :=
  ⟨fun _ _ hk h => ⟨h.1, fun e he => (hG e).mono _ _ hk (h.2 e he)⟩, fun K h => by
    obtain ⟨e, he⟩ := hp h.1
    obtain ⟨a, h1, h2⟩ := (hG e).det _ (h.2 e he)
    exact ⟨a, ⟨h.1, fun e' he' => by rw [he] at he'; injection he' with he'; subst he'; exact h1⟩, h2⟩⟩
theorem dm_get {l : List β} {i : Nat} {G : β → (α → Prop) → Prop} (hG : ∀ b, DM (G b)) : DM (fun K => i < l.length ∧ ∀ e, l[i]? = some e → G e K) :=
  dm_some (fun h => ⟨_, List.getElem?_eq_getElem h⟩) hG
theorem dm_congr {F G : (α → Prop) → Prop} (h : ∀ K, F K ↔ G K) (hF : DM F) : DM G :=
  ⟨fun K K' hk hg => (h K').1 (hF.mono K K' hk ((h K).2 hg)), fun K hg => let ⟨a, h1, h2⟩ := hF.det K ((h K).2 hg); ⟨a, (h _).1 h1, h2⟩⟩

theorem dm_live {rows : Rows} {h sz n : Nat} {G : List (List V) → (α → Prop) → Prop} (hG : ∀ b, DM (G b)) : DM (fun K => LiveN rows h sz n ∧ ∀ es, rows[h]? = some (.live sz es) → G es K) :=
  ⟨fun _ _ hk h => ⟨h.1, fun e he => (hG e).mono _ _ hk (h.2 e he)⟩, fun K hh => by
    obtain ⟨es, he, hn⟩ := hh.1
    obtain ⟨a, h1, h2⟩ := (hG es).det _ (hh.2 es he)
    exact ⟨a, ⟨hh.1, fun e' he' => by rw [he] at he'; injection he' with he'; injection he' with _ he'; subst he'; exact h1⟩, h2⟩⟩

theorem dm_binI (op : BinOp) (k : IntKind) (a b : Int) : DM (binI op k a b) := by
  show DM (fun K => binI op k a b K)
  cases op <;> simp only [binI] <;> first | exact dm_ret _ | exact dm_and (dm_ret _) | exact dm_false
theorem dm_binS (op : BinOp) (a b : List UInt8) : DM (binS op a b) := by
  show DM (fun K => binS op a b K)
  cases op <;> simp only [binS] <;> first | exact dm_ret _ | exact dm_and (dm_ret _) | exact dm_false
theorem dm_binW (op : BinOp) (x y : V) : DM (binW op x y) := by
  have e : ∀ K, binW op x y K = binW op x y K := fun _ => rfl
  unfold binW
  split
  · split
    · exact dm_and (dm_ret _)
    · exact dm_and (dm_ret _)
    · exact dm_and (dm_binI _ _ _ _)
  · exact dm_binS _ _ _
  · exact dm_false
theorem dm_unW (op : UnOp) (x : V) : DM (unW op x) := by
  unfold unW
  split <;> first | exact dm_ret _ | exact dm_false
theorem dm_cellsW (v : V) (sz : Nat) : DM (cellsW v sz) := by
  unfold cellsW
  split <;> first | exact dm_and (dm_and (dm_ret _)) | exact dm_and (dm_ret _) | exact dm_false
theorem dm_partsW (ev : Opd → V) : ∀ (ps : List (Nat × Nat × Opd)) (cells : List V), DM (partsW ev ps cells)
  | [], cells => dm_ret _
  | (off, sz, x) :: ps, cells => by
    show DM (fun K => partsW ev ((off, sz, x) :: ps) cells K)
    simp only [partsW]
    exact dm_and (dm_bind (dm_cellsW _ _) fun cs => dm_partsW ev ps _)
theorem dm_partsSl (ev : Opd → V) (sz : Nat) : ∀ (ps : List (Nat × Opd)) (es : List (List V)), DM (partsSl ev sz ps es)
  | [], cells => dm_ret _
  | (i, x) :: ps, es => by
    show DM (fun K => partsSl ev sz ((i, x) :: ps) es K)
    simp only [partsSl]
    exact dm_and (dm_bind (dm_cellsW _ _) fun cs => dm_partsSl ev sz ps _)
theorem dm_intW (v : V) : DM (intW v) := by
  unfold intW
  split <;> first | exact dm_ret _ | exact dm_false
theorem dm_bndW (ev : Opd → V) (o : Option Opd) (d : Int) : DM (bndW ev o d) := by
  unfold bndW
  split
  · exact dm_ret _
  · exact dm_intW _
theorem dm_elemsW (rows : Rows) (sz : Nat) (v : V) : DM (elemsW rows sz v) := by
  unfold elemsW
  split
  · exact dm_ret _
  · exact dm_and (dm_ret _)
  · exact dm_and (dm_ret _)
  · refine dm_and ?_
    exact dm_live fun es => dm_ret _
  · exact dm_false

end

theorem dm_opW (o : AOp) (ev : Opd → V) (rows : Rows) (hf : Nat) : DM (fun K : V × List (Nat × RowS) → Prop => opW o ev rows hf fun v u => K (v, u)) := by
  cases o with
  | mov x => exact dm_ret _
  | pick c a b => simp only [opW]; split <;> first | exact dm_ret _ | exact dm_false
  | nilck x => simp only [opW]; split <;> first | exact dm_ret _ | exact dm_and (dm_ret _) | exact dm_false
  | bin op x y => simp only [opW]; exact dm_bind (dm_binW _ _ _) fun _ => dm_ret _
  | eqB neg x y => simp only [opW]; split <;> first | exact dm_ret _ | exact dm_false
  | eqS neg ks x y =>
    simp only [opW]
    split
    · rename_i a b _ _
      unfold eqR
      generalize eqC ks a b = r
      cases r with
      | none => exact dm_false
      | some r => exact dm_ret _
    · exact dm_false
  | isNil neg x y => simp only [opW]; split <;> first | exact dm_ret _ | exact dm_false
  | un op x => simp only [opW]; exact dm_bind (dm_unW _ _) fun _ => dm_ret _
  | conv k x => simp only [opW]; split <;> first | exact dm_ret _ | exact dm_false
  | same x => simp only [opW]; split <;> first | exact dm_ret _ | exact dm_false
  | s2b x => simp only [opW]; split <;> first | exact dm_ret _ | exact dm_false
  | b2s x => simp only [opW]; exact dm_and (dm_bind (dm_elemsW _ _ _) fun _ => dm_and (dm_ret _))
  | alloc zero => exact dm_ret _
  | box sz x => simp only [opW]; exact dm_bind (dm_cellsW _ _) fun _ => dm_ret _
  | build zero ps => simp only [opW]; exact dm_bind (dm_partsW _ _ _) fun _ => dm_ret _
  | buildSl sz len zero ps => simp only [opW]; exact dm_bind (dm_partsSl _ _ _ _) fun _ => dm_ret _
  | load agg sz a =>
    simp only [opW]
    split
    · cases agg with
      | true => exact dm_and (dm_ret _)
      | false => exact dm_get fun _ => dm_ret _
    · rename_i s h n i off e
      have key : DM (fun K : V × List (Nat × RowS) → Prop => LiveN rows h s n ∧ ∀ es, rows[h]? = some (.live s es) → (es.length = n ∧ off + sz ≤ s) ∧ (i < es.length ∧ ∀ e, es[i]? = some e →
          match agg with
          | true => K (.agg ((e.drop off).take sz), [])
          | false => sz = 1 ∧ off < e.length ∧ ∀ x, e[off]? = some x → K (x, []))) := by
        refine dm_live fun es => dm_and (dm_get fun e => ?_)
        cases agg with
        | true => exact dm_ret _
        | false => exact dm_and (dm_get fun _ => dm_ret _)
      refine dm_congr (fun K => ?_) key
      constructor
      · rintro ⟨h1, h2⟩
        obtain ⟨es0, he0, hn0⟩ := h1
        obtain ⟨⟨h3, h4⟩, h5, h6⟩ := h2 es0 he0
        refine ⟨⟨es0, he0, hn0⟩, by omega, h4, fun es e he hi => ?_⟩
        rw [he0] at he; injection he with he; injection he with _ he; subst he
        exact h6 e hi
      · rintro ⟨h1, h2, h3, h4⟩
        refine ⟨h1, fun es he => ⟨⟨?_, h3⟩, ?_, fun e hi => h4 es e he hi⟩⟩ <;>
        · obtain ⟨es0, he0, hn0⟩ := h1
          rw [he0] at he; injection he with he; injection he with _ he; subst he
          omega
    · exact dm_false
  | store sz a x =>
    simp only [opW]
    split
    · rename_i s h n i off e
      have key : DM (fun K : V × List (Nat × RowS) → Prop => LiveN rows h s n ∧ ∀ es, rows[h]? = some (.live s es) → (es.length = n ∧ off + sz ≤ s) ∧ (i < es.length ∧ ∀ e, es[i]? = some e →
          cellsW (ev x) sz fun cs => K (.any, [(h, .live s (es.set i (setR e off cs)))]))) :=
        dm_live fun es => dm_and (dm_get fun e => dm_bind (dm_cellsW _ _) fun _ => dm_ret _)
      refine dm_congr (fun K => ?_) key
      constructor
      · rintro ⟨h1, h2⟩
        obtain ⟨es0, he0, hn0⟩ := h1
        obtain ⟨⟨h3, h4⟩, h5, h6⟩ := h2 es0 he0
        refine ⟨⟨es0, he0, hn0⟩, by omega, h4, ?_⟩
        refine (dm_cellsW _ _).mono _ _ (fun cs hcs => ?_) (h6 _ (List.getElem?_eq_getElem h5))
        intro es e he hi
        rw [he0] at he; injection he with he; injection he with _ he; subst he
        rw [List.getElem?_eq_getElem h5] at hi; injection hi with hi; subst hi
        exact hcs
      · rintro ⟨h1, h2, h3, h4⟩
        refine ⟨h1, fun es he => ⟨⟨?_, h3⟩, ?_, fun e hi => (dm_cellsW _ _).mono _ _ (fun cs hcs => hcs es e he hi) h4⟩⟩ <;>
        · obtain ⟨es0, he0, hn0⟩ := h1
          rw [he0] at he; injection he with he; injection he with _ he; subst he
          omega
    · exact dm_false
  | mksl sz bytes zero l c => simp only [opW]; exact dm_bind (dm_intW _) fun _ => dm_bind (dm_intW _) fun _ => dm_and (dm_and (dm_and (dm_and (dm_ret _))))
  | slice sz x lo hi =>
    simp only [opW]
    split
    · exact dm_and (dm_bind (dm_bndW _ _ _) fun _ => dm_bind (dm_bndW _ _ _) fun _ => dm_and (dm_and (dm_ret _)))
    · exact dm_and (dm_and (dm_bind (dm_bndW _ _ _) fun _ => dm_bind (dm_bndW _ _ _) fun _ => dm_and (dm_and (dm_and (dm_ret _)))))
    · exact dm_and (dm_bind (dm_bndW _ _ _) fun _ => dm_bind (dm_bndW _ _ _) fun _ => dm_and (dm_and (dm_and (dm_ret _))))
    · exact dm_and (dm_and (dm_and (dm_bind (dm_bndW _ _ _) fun _ => dm_bind (dm_bndW _ _ _) fun _ => dm_and (dm_and (dm_and (dm_ret _))))))
    · exact dm_false
  | fldA off x => simp only [opW]; split <;> first | exact dm_ret _ | exact dm_and (dm_ret _) | exact dm_false
  | fld off sz agg x =>
    simp only [opW]
    split
    · cases agg with
      | true => exact dm_and (dm_ret _)
      | false => exact dm_get fun _ => dm_ret _
    · exact dm_false
  | idxA sz arr x i =>
    simp only [opW]
    refine dm_bind (dm_intW _) fun j => ?_
    split
    · rename_i s es e
      have key : DM (fun K : V × List (Nat × RowS) → Prop => s = sz ∧ (0 ≤ j) ∧ ((j < es.length) ∧ ∀ e, es[j.toNat]? = some e → K (.d (.ptr e), []))) :=
        dm_and ⟨fun _ _ hk h => ⟨h.1, h.2.1, fun e he => hk _ (h.2.2 e he)⟩, fun K h => by
          have hl : j.toNat < es.length := by have := h.1; have := h.2.1; omega
          exact ⟨_, ⟨h.1, h.2.1, fun e he => by rw [List.getElem?_eq_getElem hl] at he; injection he with he; subst he; rfl⟩, h.2.2 _ (List.getElem?_eq_getElem hl)⟩⟩
      exact key
    · exact dm_and (dm_and (dm_and (dm_and (dm_ret _))))
    · exact dm_and (dm_and (dm_ret _))
    · exact dm_and (dm_and (dm_and (dm_ret _)))
    · exact dm_false
  | idx sz n agg x i =>
    simp only [opW]
    refine dm_bind (dm_intW _) fun j => ?_
    split
    · rename_i cs e
      cases agg with
      | true => exact dm_and (dm_and (dm_and (dm_ret _)))
      | false =>
        refine ⟨fun _ _ hk h => ⟨h.1, h.2.1, h.2.2.1, h.2.2.2.1, fun e he => hk _ (h.2.2.2.2 e he)⟩, fun K h => ?_⟩
        obtain ⟨h1, h2, h3, h4, h5⟩ := h
        have hl : j.toNat < cs.length := by subst h4; omega
        exact ⟨_, ⟨h1, h2, h3, h4, fun e he => by rw [List.getElem?_eq_getElem hl] at he; injection he with he; subst he; rfl⟩, h5 _ (List.getElem?_eq_getElem hl)⟩
    · exact dm_false
  | idxS x i =>
    simp only [opW]
    refine dm_bind (dm_intW _) fun j => ?_
    split
    · rename_i s e
      refine ⟨fun _ _ hk h => ⟨h.1, h.2.1, fun e he => hk _ (h.2.2 e he)⟩, fun K h => ?_⟩
      have hl : j.toNat < s.length := by have := h.1; have := h.2.1; omega
      exact ⟨_, ⟨h.1, h.2.1, fun e he => by rw [List.getElem?_eq_getElem hl] at he; injection he with he; subst he; rfl⟩, h.2.2 _ (List.getElem?_eq_getElem hl)⟩
    · exact dm_false
  | ext x i =>
    simp only [opW]
    split
    · exact dm_get fun _ => dm_ret _
    · exact dm_false
  | mkfn f a b => exact dm_ret _
  | len str x => simp only [opW]; split <;> first | exact dm_ret _ | exact dm_and (dm_ret _) | exact dm_false
  | append sz bytes s x =>
    simp only [opW]
    refine dm_bind (dm_elemsW _ _ _) fun xs => ?_
    split
    · exact dm_and (dm_ret _)
    · rename_i s h n off len e
      have key : DM (fun K : V × List (Nat × RowS) → Prop => (s = sz ∧ off = 0 ∧ len = n ∧ (n + xs.length) * bytes ≤ maxBytes) ∧ (LiveN rows h sz n ∧ ∀ es, rows[h]? = some (.live sz es) → K (.osl sz h (n + xs.length) 0 (n + xs.length), [(h, .live sz (es ++ xs))]))) :=
        dm_and (dm_live fun es => dm_ret _)
      refine dm_congr (fun K => ?_) key
      constructor
      · rintro ⟨⟨a, b, c, d⟩, e, f⟩; exact ⟨a, b, c, e, d, f⟩
      · rintro ⟨a, b, c, e, d, f⟩; exact ⟨⟨a, b, c, d⟩, e, f⟩
    · exact dm_false
  | copy sz d s =>
    simp only [opW]
    refine dm_bind (dm_elemsW _ _ _) fun xs => ?_
    split
    · exact dm_ret _
    · exact dm_and (dm_live fun es => dm_ret _)
    · exact dm_false
  | clr sz z x =>
    simp only [opW]
    split
    · rename_i s h n off len _
      refine dm_congr (F := fun K : V × List (Nat × RowS) → Prop => (s = sz ∧ off + len ≤ n) ∧ (LiveN rows h sz n ∧ ∀ es, rows[h]? = some (RowS.live sz es) → K (.tup [], [(h, .live sz (es.take off ++ List.replicate len (z.map .d) ++ es.drop (off + len)))]))) (fun K => ?_) (dm_and (dm_live fun es => dm_ret _))
      constructor
      · rintro ⟨⟨a, b⟩, c, d⟩; exact ⟨a, c, b, d⟩
      · rintro ⟨a, c, b, d⟩; exact ⟨⟨a, b⟩, c, d⟩
    · exact dm_false
  | mn x y => simp only [opW]; split <;> first | exact dm_ret _ | exact dm_false
  | mx x y => simp only [opW]; split <;> first | exact dm_ret _ | exact dm_false
  | bad => exact dm_false
  | idxB x y => simp only [opW]; split <;> first | exact dm_ret _ | exact dm_false
  | rng x => simp only [opW]; split <;> first | exact dm_ret _ | exact dm_false
  | nxt x =>
    simp only [opW]
    split
    · unfold nxtW
      split
      · rename_i s pos _
        by_cases hp : pos < s.length
        · exact dm_congr (fun K => ⟨fun h => ⟨fun _ => h, fun hn => absurd hp hn⟩, fun h => h.1 hp⟩) (dm_ret _)
        · exact dm_congr (fun K => ⟨fun h => ⟨fun hn => absurd hn hp, fun _ => h⟩, fun h => h.2 hp⟩) (dm_ret _)
      · exact dm_false
    · exact dm_false
  | mkmap => exact dm_ret _
  | lkp ok z m k =>
    simp only [opW]
    split
    · refine dm_and ?_
      unfold lkpW
      split <;> first | exact dm_ret _ | exact dm_false
    · exact dm_false
  | upd m k v =>
    simp only [opW]
    split
    · refine dm_and ?_
      unfold updW
      split <;> first | exact dm_ret _ | exact dm_false
    · exact dm_false

end Go.Vx

namespace Go.Vx

section
variable [CtxPred] {P : Program}

/-- One statement, come to one value and one change of the rows. -/
def StepOK (P : Program) (base : Nat) (s : AStm) (S : St) (v : V) (ups : List (Nat × RowS)) : Prop :=
  match s.guard with
  | none => actW P base s S fun v' u' => v' = v ∧ u' = ups
  | some (t, want) =>
    match nth S.fr t with
    | .d (.bool b) => (b = want ∧ actW P base s S fun v' u' => v' = v ∧ u' = ups) ∨ (b ≠ want ∧ v = .tup [] ∧ ups = [])
    | .tup [] => v = .tup [] ∧ ups = []
    | _ => False

theorem act_det {base : Nat} {s : AStm} {S : St} {K : V → List (Nat × RowS) → Prop} (h : actW P base s S K) :
    ∃ v ups, (actW P base s S fun v' u' => v' = v ∧ u' = ups) ∧ K v ups := by
  unfold actW at h ⊢
  split at h
  · rename_i o e
    obtain ⟨hm, h⟩ := h
    obtain ⟨⟨v, u⟩, h1, h2⟩ := (dm_opW o (Opd.ev S.fr) S.rows (base + s.hi)).det (fun p => K p.1 p.2) h
    refine ⟨v, u, ⟨hm, ?_⟩, h2⟩
    exact (dm_opW o (Opd.ev S.fr) S.rows (base + s.hi)).mono (fun p => p = (v, u)) (fun p => p.1 = v ∧ p.2 = u) (by rintro p rfl; exact ⟨rfl, rfl⟩) h1
  · unfold callW at h ⊢
    split at h
    · obtain ⟨v, ups, h1, h2⟩ := h
      exact ⟨v, ups, ⟨v, ups, h1, rfl, rfl⟩, h2⟩
    · obtain ⟨v, ups, h1, h2⟩ := h
      exact ⟨v, ups, ⟨v, ups, h1, rfl, rfl⟩, h2⟩
    · exact h.elim

theorem stm_det {base : Nat} {s : AStm} {S : St} {K : V → List (Nat × RowS) → Prop} (h : stmU P base s S K) : ∃ v ups, StepOK P base s S v ups ∧ K v ups := by
  unfold stmU at h
  cases hg : s.guard with
  | none =>
    simp only [hg] at h
    simp only [StepOK, hg]
    exact act_det h
  | some tw =>
    obtain ⟨t, want⟩ := tw
    simp only [hg] at h
    simp only [StepOK, hg]
    split at h
    · rename_i b e
      simp only [e]
      by_cases hb : b = want
      · obtain ⟨v, u, h1, h2⟩ := act_det (h.1 hb)
        exact ⟨v, u, .inl ⟨hb, h1⟩, h2⟩
      · exact ⟨.tup [], [], .inr ⟨hb, rfl, rfl⟩, h.2 hb⟩
    · rename_i e
      simp only [e]
      exact ⟨.tup [], [], ⟨rfl, rfl⟩, h⟩
    · exact h.elim

def compGuard (ops : Array Oper) : Option (Nat × Bool) → Option (Option (Nat × Bool))
  | none => some none
  | some (j, w) => ((ops[j]?).bind (·.dst)).map fun t => some (t, w)

def isIdxO (P : Program) : Operand → Bool
  | .func f => isIdx P f
  | _ => false
def compAct (P : Program) (o : Oper) : Option AAct :=
  match o.op with
  | .call { callee := .value f, args, argTypes := _ } =>
    if isIdxO P f = true then some (.op (compOpB P o.op o.type)) else (compOpd f).bind fun f => (args.toList.mapM compOpd).map fun a => .call f a
  | op => some (.op (compOpB P op o.type))

def compStm (P : Program) (ops : Array Oper) (o : Oper) (hi : Nat) : Option AStm :=
  (compGuard ops o.guard).bind fun g => (compAct P o).map fun a => ⟨o.dst, hi, g, a⟩

theorem opd_rep {c : Cx} (ok : Ok c) {a : Act} {fr : List V} (hf : ∀ i, Rep c (a.tmps.getD i undef) (nth fr i)) : ∀ x o, compOpd x = some o → Rep c (a.eval x) (o.ev fr) := by
  intro x o h
  cases x with
  | tmp t => injection h with h; subst h; exact hf t
  | const v =>
    injection h with h; subst h
    cases hv : absV v with
    | none => exact .any _
    | some y => exact absV_rep hv
  | global g =>
    simp only [compOpd] at h
    split at h
    · rename_i hg; subst hg
      injection h with h; subst h
      exact .d _ _ ok.g.glob
    · cases h
  | func f =>
    injection h with h; subst h
    exact .fn _ _ _ _ _ rfl rfl (fun j v x h => by simp at h) (fun j v x h => by simp at h)

theorem yield_of {ops : Array Oper} {a : Act} {j t : Nat} {w : Bool} (h : compGuard ops (some (j, w)) = some (some (t, w))) : yielded ops a.tmps j = (match a.tmps[t]? with | some (.bool b) => some b | _ => none) := by
  obtain ⟨t', ht, h⟩ := Option.map_eq_some_iff.1 h
  injection h with h; injection h with h; subst h
  unfold yielded
  rw [ht]
  rfl

/-- the wide fence, in a round or not -/
def fnc (ro : Option Nat) : Fence := { fn := fun _ => True, depth := none, alive := false, round := ro }
theorem calls_fnc {ro : Option Nat} {n : Nat} {f : FuncId} {args : Array Value} {w : World} {R : Ending → World → Prop} (h : Calls P f args w R) : CallsIn (fnc ro) n P f args w R :=
  callsIn_wide.2 h
theorem stm_sound {ro : Option Nat} {ops : Array Oper} {o : Oper} {hi base : Nat} {s : AStm} {S : St} {v : V} {ups : List (Nat × RowS)} {c0 : Cx} {a : Act} {w : World} {K' : Act → World → Prop} {Q : Exit → Act → World → Prop}
    (hc : compStm P ops o hi = some s) (hst : StepOK P base s S v ups) (hsat : Sat c0 S a w) (hG : CtxPred.G c0) (hK : ∀ a' w', Sat c0 (S.after s v ups) a' w' → K' a' w') :
    if Region.wanted o (yielded ops a.tmps) then o.wpIn (fnc ro) 0 P a w K' Q else (∀ f, o.about P w a.eval = some f → (fnc ro).fn f) ∧ K' (a.put o.dst undef) w := by
  obtain ⟨g, hg, hc⟩ := Option.bind_eq_some_iff.1 hc
  obtain ⟨ac, hac, rfl⟩ := Option.map_eq_some_iff.1 hc
  obtain ⟨ρ, I, ok, hx, hd, hl, hf⟩ := hsat
  have hopd := opd_rep ok hf
  have opcase : (actW P base ⟨o.dst, hi, g, .op (compOpB P o.op o.type)⟩ S fun v' u' => v' = v ∧ u' = ups) → (∀ a' w', Sat c0 (S.after ⟨o.dst, hi, g, .op (compOpB P o.op o.type)⟩ v ups) a' w' → K' a' w') → o.wpIn (fnc ro) 0 P a w K' Q := by
    intro hact hK
    simp only [actW] at hact
    obtain ⟨hm, hact⟩ := hact
    have hnd : ∀ c, o.op ≠ .defer c := fun c ho => by rw [ho] at hact; simp [compOpB, compOp, opW] at hact
    refine ⟨fun _ _ => trivial, ?_⟩
    rw [Oper.semAt_eq _ _ _ hnd]
    obtain ⟨v', ups', n, c', ⟨rfl, rfl⟩, hrun, ok', hx', hrows, hn⟩ := compB_sound (o := o) ok (fun _ => rfl) hopd hm hact
    rw [hrun]
    have hfr' : ∀ i, Rep c' (a.tmps.getD i undef) (nth S.fr i) := fun i => (hf i).mono hx' ok
    have hc' : c' = ⟨c'.ρ, c'.I, setRows S.rows ups', c'.w⟩ := by cases c'; simp only at hrows; subst hrows; rfl
    have hput : ∀ u, Rep c' u v' → Sat c0 (S.after ⟨o.dst, hi, g, .op (compOpB P o.op o.type)⟩ v' ups') (a.put o.dst u) c'.w := fun u hu =>
      Sat.put (c0 := c0) (S := S) (a := a) (w := c'.w) (ρ := c'.ρ) (I := c'.I) (rows := setRows S.rows ups') (by rw [← hc']; exact ok') (by rw [← hc']; exact hx.trans hx') (by rw [← hc']; exact hd.mono hx') hl (fun i => by rw [← hc']; exact hfr' i) o.dst (u := u) (v := v') (by rw [← hc']; exact hu)
    rcases hn with ⟨u, rfl, hu⟩ | ⟨rfl, rfl⟩
    · exact hK _ _ (hput u hu)
    · exact hK _ _ (hput undef (.any _))
  -- the statement carried out
  have take : (actW P base ⟨o.dst, hi, g, ac⟩ S fun v' u' => v' = v ∧ u' = ups) → o.wpIn (fnc ro) 0 P a w K' Q := by
    intro hact
    unfold compAct at hac
    split at hac
    · rename_i f args argTypes hop
      split at hac
      · injection hac with hac; subst hac
        exact opcase hact hK
      refine ⟨fun _ _ => trivial, ?_⟩
      rw [Oper.semAt_eq _ _ _ (fun c ho => by rw [hop] at ho; cases ho)]
      obtain ⟨f', hf', hac⟩ := Option.bind_eq_some_iff.1 hac
      obtain ⟨args', ha', rfl⟩ := Option.map_eq_some_iff.1 hac
      simp only [actW, callW] at hact
      have hfr := hopd f f' hf'
      split at hact
      · rename_i n first cap e1
        rw [e1] at hfr
        obtain ⟨v', ups', hcd, rfl, rfl⟩ := hact
        obtain ⟨hal, har⟩ := list_rep (c := ⟨ρ, I, S.rows, w⟩) hopd ha'
        generalize hfv : a.eval f = fv at hfr
        cases hfr with | fn _ fs cps _ _ h1 h2 h3 h4 =>
        have hent : Enters P n := hcd.enters
        obtain ⟨fn, hfn, hnm, hbd⟩ := hent
        have hrun : (execOp a.eval o).run P w = .ok (.enter n (fs ++ args.map a.eval ++ cps)) w := by
          have hnm' : ¬ fn.name = "runtime.NumGoroutine" := by simpa using hnm
          have hbd' : ¬ fn.body = none := fun e => by rw [e] at hbd; simp at hbd
          unfold execOp
          rw [hop]
          simp [resolve, hfv, Deferred.ofValue, invoke, callFunc, hfn, hnm', hbd']
        rw [hrun, Oper.uponIn_enter]
        have hargs : RepL ⟨ρ, I, S.rows, w⟩ (fs ++ args.map a.eval ++ cps).toList (first ++ args'.map (Opd.ev S.fr) ++ cap) := by
          refine ⟨by simp at hal ⊢; omega, fun j v x hv hx => ?_⟩
          simp only [Array.toList_append] at hx
          rw [List.getElem?_append] at hv hx
          simp only [List.length_append, Array.length_toList] at hv hx
          by_cases c1 : j < fs.size + (args.map a.eval).size
          · have c2 : j < first.length + (args'.map (Opd.ev S.fr)).length := by omega
            rw [if_pos c2] at hv
            rw [if_pos c1, List.getElem?_append] at hx
            rw [List.getElem?_append] at hv
            simp only [Array.length_toList] at hx
            by_cases c3 : j < fs.size
            · rw [if_pos c3] at hx
              rw [if_pos (by omega)] at hv
              exact h3 j v x hv (by simpa using hx)
            · rw [if_neg c3] at hx
              rw [if_neg (by omega)] at hv
              rw [← h1] at hv
              exact har _ v x hv (by simpa using hx)
          · have c2 : ¬ j < first.length + (args'.map (Opd.ev S.fr)).length := by omega
            rw [if_neg c2] at hv
            rw [if_neg c1] at hx
            have c3 : j - (first.length + (args'.map (Opd.ev S.fr)).length) = j - (fs.size + (args.map a.eval).size) := by omega
            rw [c3] at hv
            exact h4 _ v x hv (by simpa using hx)
        refine ⟨fun h => by simp [fnc] at h, calls_fnc ((callX_sound ok hargs hcd).mono ?_)⟩
        rintro e w' ⟨u, c', rfl, rfl, ok', hx', hrows, hrep⟩
        refine hK _ _ ?_
        have hfr' : ∀ i, Rep c' (a.tmps.getD i undef) (nth S.fr i) := fun i => (hf i).mono hx' ok
        have hc' : c' = ⟨c'.ρ, c'.I, setRows S.rows ups', c'.w⟩ := by cases c'; simp only at hrows; subst hrows; rfl
        have hsat := Sat.put (c0 := c0) (S := S) (a := a) (w := c'.w) (ρ := c'.ρ) (I := c'.I) (rows := setRows S.rows ups') (by rw [← hc']; exact ok') (by rw [← hc']; exact hx.trans hx') (by rw [← hc']; exact hd.mono hx') hl (fun i => by rw [← hc']; exact hfr' i) o.dst (u := u) (v := v') (by rw [← hc']; exact hrep)
        exact hsat
      · rename_i l first cap e1
        rw [e1] at hfr
        obtain ⟨v', ups', hcd, rfl, rfl⟩ := hact
        obtain ⟨hal, har⟩ := list_rep (c := ⟨ρ, I, S.rows, w⟩) hopd ha'
        generalize hfv : a.eval f = fv at hfr
        cases hfr with | fn _ fs cps _ _ h1 h2 h3 h4 =>
        have hrun : (execOp a.eval o).run P w = (Instr.yield l (fs ++ args.map a.eval)).run P w := by
          unfold execOp
          rw [hop]
          simp [resolve, hfv, Deferred.ofValue, invoke]
        have hargs : RepL ⟨ρ, I, S.rows, w⟩ (fs ++ args.map a.eval).toList (first ++ args'.map (Opd.ev S.fr)) := by
          refine ⟨by simp at hal ⊢; omega, fun j v x hv hx => ?_⟩
          simp only [Array.toList_append] at hx
          rw [List.getElem?_append] at hv hx
          simp only [Array.length_toList] at hx
          by_cases c3 : j < fs.size
          · rw [if_pos c3] at hx
            rw [if_pos (by omega)] at hv
            exact h3 j v x hv (by simpa using hx)
          · rw [if_neg c3] at hx
            rw [if_neg (by omega)] at hv
            rw [← h1] at hv
            exact har _ v x hv (by simpa using hx)
        obtain ⟨fn, tm, asg, body, hy, hR⟩ := hcd.2.2 ⟨ρ, I, S.rows, w⟩ _ ok (CtxPred.stable hx hG) rfl hargs
        rw [hrun, hy, Oper.uponIn_round]
        refine ⟨fun h => by simp [fnc] at h, RoundIn.mono hR ?_⟩
        rintro e w' ⟨u, c', rfl, rfl, ok', hx', hrows, hrep⟩
        refine hK _ _ ?_
        have hfr' : ∀ i, Rep c' (a.tmps.getD i undef) (nth S.fr i) := fun i => (hf i).mono hx' ok
        have hc' : c' = ⟨c'.ρ, c'.I, setRows S.rows ups', c'.w⟩ := by cases c'; simp only at hrows; subst hrows; rfl
        have hsat := Sat.put (c0 := c0) (S := S) (a := a) (w := c'.w) (ρ := c'.ρ) (I := c'.I) (rows := setRows S.rows ups') (by rw [← hc']; exact ok') (by rw [← hc']; exact hx.trans hx') (by rw [← hc']; exact hd.mono hx') hl (fun i => by rw [← hc']; exact hfr' i) o.dst (u := u) (v := v') (by rw [← hc']; exact hrep)
        exact hsat
      · exact hact.elim
    · injection hac with hac; subst hac
      exact opcase hact hK
  have skip : v = .tup [] → ups = [] → K' (a.put o.dst undef) w := by
    rintro rfl rfl
    exact hK _ _ (Sat.put ok hx hd hl hf o.dst (.tup #[] [] rfl (fun j v x h => by simp at h)))
  unfold StepOK at hst
  cases hog : o.guard with
  | none =>
    rw [hog] at hg
    injection hg with hg; subst hg
    rw [if_pos (by simp [Region.wanted, hog])]
    exact take hst
  | some jw =>
    obtain ⟨j, want⟩ := jw
    rw [hog] at hg
    have hg' := hg
    obtain ⟨t, ht, hg2⟩ := Option.map_eq_some_iff.1 hg
    subst hg2
    simp only at hst
    have hy := yield_of (a := a) hg'
    have hrt := hf t
    split at hst
    · rename_i b e1
      rw [e1] at hrt
      have hb := rep_bool hrt
      have hlt : t < a.tmps.size := by
        rcases Nat.lt_or_ge t a.tmps.size with h | h
        · exact h
        · rw [Array.getD_eq_getD_getElem?, Array.getElem?_eq_none h] at hb
          simp [undef] at hb
      have hget : a.tmps[t]? = some (.bool b) := by
        rw [Array.getD_eq_getD_getElem?, Array.getElem?_eq_getElem hlt] at hb
        rw [Array.getElem?_eq_getElem hlt]
        simpa using hb
      rw [hget] at hy
      simp only at hy
      rcases hst with ⟨rfl, hst⟩ | ⟨hne, h1, h2⟩
      · rw [if_pos (by simp [Region.wanted, hog, hy])]
        exact take hst
      · rw [if_neg (by simp [Region.wanted, hog, hy, hne])]
        exact ⟨fun _ _ => trivial, skip h1 h2⟩
    · rename_i e1
      rw [e1] at hrt
      have hyn : yielded ops a.tmps j = none := by
        rw [hy]
        generalize hu : a.tmps.getD t undef = u at hrt
        cases hrt with | tup vs _ hlen hrep =>
        rw [Array.getD_eq_getD_getElem?] at hu
        cases hgt : a.tmps[t]? with
        | none => rfl
        | some x => rw [hgt] at hu; simp at hu; subst hu; rfl
      rw [if_neg (by simp [Region.wanted, hog, hyn])]
      exact ⟨fun _ _ => trivial, skip hst.1 hst.2⟩
    · exact hst.elim

theorem inl_sound {ro : Option Nat} {ops : Array Oper} {o : Oper} {hi : Nat} {s : AStm} {S : St} {K : V → Rows → Prop} {c0 : Cx} {a : Act} {w : World} {K' : Act → World → Prop} {Q : Exit → Act → World → Prop}
    (hc : compStm P ops o hi = some s) (hst : inlW P s S K) (hsat : Sat c0 S a w) (hG : CtxPred.G c0) (hK : ∀ v rows' a' w', K v rows' → Sat c0 ⟨putV S.fr s.dst v, rows'⟩ a' w' → K' a' w') :
    if Region.wanted o (yielded ops a.tmps) then o.wpIn (fnc ro) 0 P a w K' Q else (∀ f, o.about P w a.eval = some f → (fnc ro).fn f) ∧ K' (a.put o.dst undef) w := by
  obtain ⟨g, hg, hc⟩ := Option.bind_eq_some_iff.1 hc
  obtain ⟨ac, hac, rfl⟩ := Option.map_eq_some_iff.1 hc
  obtain ⟨ρ, I, ok, hx, hd, hl, hf⟩ := hsat
  have hopd := opd_rep ok hf
  have hg0 : ∃ f args, ac = .call f args := by
    unfold inlW at hst
    cases ac with
    | op o => exact hst.elim
    | call f args => exact ⟨f, args, rfl⟩
  obtain ⟨f', args', rfl⟩ := hg0
  have hgo : guardOn g S.fr := hst.1
  replace hst : (match f'.ev S.fr with | .fn (.func g) first cap => InlP P g (first ++ args'.map (Opd.ev S.fr) ++ cap) S.rows K | _ => False) := hst.2
  have hwant : Region.wanted o (yielded ops a.tmps) = true := by
    cases hog : o.guard with
    | none => simp [Region.wanted, hog]
    | some jw =>
      obtain ⟨j, want⟩ := jw
      rw [hog] at hg
      have hg' := hg
      obtain ⟨t, ht, hg2⟩ := Option.map_eq_some_iff.1 hg
      subst hg2
      have hy := yield_of (a := a) hg'
      have hrt := hf t
      have e1 : nth S.fr t = .d (.bool want) := hgo
      rw [e1] at hrt
      have hb := rep_bool hrt
      have hlt : t < a.tmps.size := by
        rcases Nat.lt_or_ge t a.tmps.size with h | h
        · exact h
        · rw [Array.getD_eq_getD_getElem?, Array.getElem?_eq_none h] at hb
          simp [undef] at hb
      have hget : a.tmps[t]? = some (.bool want) := by
        rw [Array.getD_eq_getD_getElem?, Array.getElem?_eq_getElem hlt] at hb
        rw [Array.getElem?_eq_getElem hlt]
        simpa using hb
      rw [hget] at hy
      simp only at hy
      simp [Region.wanted, hog, hy]
  rw [if_pos hwant]
  refine ⟨fun _ _ => trivial, ?_⟩
  unfold compAct at hac
  split at hac
  · rename_i f args argTypes hop
    split at hac
    · injection hac with h; cases h
    obtain ⟨f2, hf', hac⟩ := Option.bind_eq_some_iff.1 hac
    obtain ⟨args2, ha', hac⟩ := Option.map_eq_some_iff.1 hac
    injection hac with e1 e2; subst e1 e2
    have hfr := hopd f f2 hf'
    rw [Oper.semAt_eq _ _ _ (fun c ho => by rw [hop] at ho; cases ho)]
    split at hst
    · rename_i n first cap e1
      rw [e1] at hfr
      obtain ⟨hent, hinl⟩ := hst
      obtain ⟨hal, har⟩ := list_rep (c := ⟨ρ, I, S.rows, w⟩) hopd ha'
      generalize hfv : a.eval f = fv at hfr
      cases hfr with | fn _ fs cps _ _ h1 h2 h3 h4 =>
      obtain ⟨fn, hfn, hnm, hbd⟩ := hent
      have hrun : (execOp a.eval o).run P w = .ok (.enter n (fs ++ args.map a.eval ++ cps)) w := by
        have hnm' : ¬ fn.name = "runtime.NumGoroutine" := by simpa using hnm
        have hbd' : ¬ fn.body = none := fun e => by rw [e] at hbd; simp at hbd
        unfold execOp
        rw [hop]
        simp [resolve, hfv, Deferred.ofValue, invoke, callFunc, hfn, hnm', hbd']
      rw [hrun, Oper.uponIn_enter]
      have hargs : RepL ⟨ρ, I, S.rows, w⟩ (fs ++ args.map a.eval ++ cps).toList (first ++ args2.map (Opd.ev S.fr) ++ cap) := by
        refine ⟨by simp at hal ⊢; omega, fun j v x hv hx => ?_⟩
        simp only [Array.toList_append] at hx
        rw [List.getElem?_append] at hv hx
        simp only [List.length_append, Array.length_toList] at hv hx
        by_cases c1 : j < fs.size + (args.map a.eval).size
        · have c2 : j < first.length + (args2.map (Opd.ev S.fr)).length := by omega
          rw [if_pos c2] at hv
          rw [if_pos c1, List.getElem?_append] at hx
          rw [List.getElem?_append] at hv
          simp only [Array.length_toList] at hx
          by_cases c3 : j < fs.size
          · rw [if_pos c3] at hx
            rw [if_pos (by omega)] at hv
            exact h3 j v x hv (by simpa using hx)
          · rw [if_neg c3] at hx
            rw [if_neg (by omega)] at hv
            rw [← h1] at hv
            exact har _ v x hv (by simpa using hx)
        · have c2 : ¬ j < first.length + (args2.map (Opd.ev S.fr)).length := by omega
          rw [if_neg c2] at hv
          rw [if_neg c1] at hx
          have c3 : j - (first.length + (args2.map (Opd.ev S.fr)).length) = j - (fs.size + (args.map a.eval).size) := by omega
          rw [c3] at hv
          exact h4 _ v x hv (by simpa using hx)
      refine ⟨fun h => by simp [fnc] at h, calls_fnc ((hinl ⟨ρ, I, S.rows, w⟩ _ ok (CtxPred.stable hx hG) rfl hargs).mono ?_)⟩
      rintro e w' ⟨u, c', v, rfl, rfl, ok', hx', hrep, hk⟩
      refine hK v c'.rows _ _ hk ?_
      have hfr' : ∀ i, Rep c' (a.tmps.getD i undef) (nth S.fr i) := fun i => (hf i).mono hx' ok
      exact Sat.put (c0 := c0) (S := ⟨S.fr, c'.rows⟩) (a := a) (w := c'.w) (ρ := c'.ρ) (I := c'.I) (rows := c'.rows) ok' (hx.trans hx') (hd.mono hx') hl hfr' o.dst (u := u) (v := v) hrep
    · exact hst.elim
  · injection hac with h; cases h

end
end Go.Vx

namespace Go.Vx

def optL : Option Opd → List Opd
  | none => []
  | some x => [x]

def AOp.opds : AOp → List Opd
  | .mov x => [x] | .pick c a b => [c, a, b] | .nilck x => [x] | .bin _ x y => [x, y] | .eqB _ x y => [x, y] | .eqS _ _ x y => [x, y] | .isNil _ x y => [x, y] | .un _ x => [x] | .conv _ x => [x] | .same x => [x] | .s2b x => [x] | .b2s x => [x]
  | .alloc _ => [] | .box _ x => [x] | .build _ ps => ps.map (·.2.2) | .buildSl _ _ _ ps => ps.map (·.2) | .load _ _ a => [a] | .store _ a x => [a, x] | .mksl _ _ _ l c => [l, c]
  | .slice _ x lo hi => x :: (optL lo ++ optL hi) | .fldA _ x => [x] | .fld _ _ _ x => [x] | .idxA _ _ x i => [x, i] | .idx _ _ _ x i => [x, i] | .idxS x i => [x, i] | .ext x _ => [x]
  | .mkfn _ a b => a ++ b | .len _ x => [x] | .append _ _ s x => [s, x] | .copy _ d s => [d, s] | .clr _ _ x => [x] | .mn x y => [x, y] | .mx x y => [x, y]
  | .bad => [] | .idxB x y => [x, y] | .rng x => [x] | .nxt x => [x] | .mkmap => [] | .lkp _ _ m k => [m, k] | .upd m k v => [m, k, v]

section
variable {ev ev' : Opd → V} {rows rows' : Rows}

theorem partsW_ev : ∀ (ps : List (Nat × Nat × Opd)) (cells : List V) (K : List V → Prop), (∀ x ∈ ps.map (·.2.2), ev x = ev' x) → (partsW ev ps cells K ↔ partsW ev' ps cells K)
  | [], _, _, _ => Iff.rfl
  | (off, sz, x) :: ps, cells, K, h => by
    simp only [partsW]
    rw [h x (by simp)]
    refine and_congr Iff.rfl ⟨fun hh => (dm_cellsW _ _).mono _ _ (fun cs hc => (partsW_ev ps _ K (fun y hy => h y (by simp at hy ⊢; exact .inr hy))).1 hc) hh, fun hh => (dm_cellsW _ _).mono _ _ (fun cs hc => (partsW_ev ps _ K (fun y hy => h y (by simp at hy ⊢; exact .inr hy))).2 hc) hh⟩

theorem partsSl_ev (sz : Nat) : ∀ (ps : List (Nat × Opd)) (es : List (List V)) (K : List (List V) → Prop), (∀ x ∈ ps.map (·.2), ev x = ev' x) → (partsSl ev sz ps es K ↔ partsSl ev' sz ps es K)
  | [], _, _, _ => Iff.rfl
  | (i, x) :: ps, es, K, h => by
    simp only [partsSl]
    rw [h x (by simp)]
    refine and_congr Iff.rfl ⟨fun hh => (dm_cellsW _ _).mono _ _ (fun cs hc => (partsSl_ev sz ps _ K (fun y hy => h y (by simp at hy ⊢; exact .inr hy))).1 hc) hh, fun hh => (dm_cellsW _ _).mono _ _ (fun cs hc => (partsSl_ev sz ps _ K (fun y hy => h y (by simp at hy ⊢; exact .inr hy))).2 hc) hh⟩

theorem bndW_ev {o : Option Opd} (h : ∀ x ∈ optL o, ev x = ev' x) (d : Int) (K : Int → Prop) : bndW ev o d K = bndW ev' o d K := by
  cases o with
  | none => rfl
  | some x => simp only [bndW, h x (by simp [optL])]

theorem opW_ev (o : AOp) (h : ∀ x ∈ o.opds, ev x = ev' x) (hf : Nat) (K : V → List (Nat × RowS) → Prop) : opW o ev rows hf K ↔ opW o ev' rows hf K := by
  cases o with
  | build z ps => simp only [opW]; exact partsW_ev ps _ _ h
  | buildSl sz len z ps => simp only [opW]; exact partsSl_ev sz ps _ _ h
  | mkfn f a b =>
    simp only [opW]
    rw [List.map_congr_left (fun x hx => h x (by simp [AOp.opds, hx])), List.map_congr_left (l := b) (fun x hx => h x (by simp [AOp.opds, hx]))]
  | slice sz x lo hi =>
    simp only [opW]
    rw [h x (by simp [AOp.opds])]
    have h1 : ∀ d K, bndW ev lo d K = bndW ev' lo d K := bndW_ev (fun y hy => h y (by simp [AOp.opds, hy]))
    have h2 : ∀ d K, bndW ev hi d K = bndW ev' hi d K := bndW_ev (fun y hy => h y (by simp [AOp.opds, hy]))
    simp only [h1, h2]
  | _ =>
    simp only [AOp.opds, List.mem_cons, List.not_mem_nil, or_false, forall_eq_or_imp, forall_eq] at h
    simp only [opW, h]

theorem live_loc {h sz n : Nat} (e : rows[h]? = rows'[h]?) (hl : LiveN rows h sz n) : LiveN rows' h sz n := by
  obtain ⟨es, h1, h2⟩ := hl
  exact ⟨es, e.symm.trans h1, h2⟩

theorem elemsW_loc {sz : Nat} {v : V} {K : List (List V) → Prop} (e : ∀ h ∈ hOf1 v, rows[h]? = rows'[h]?) (hw : elemsW rows sz v K) : elemsW rows' sz v K := by
  unfold elemsW at hw ⊢
  split at hw
  · exact hw
  · exact hw
  · exact hw
  · rename_i s h n off len
    have e' := e h (by simp [hOf1])
    refine ⟨hw.1, ?_, fun es he => hw.2.2 es (e'.trans he)⟩
    obtain ⟨es, h1, h2⟩ := hw.2.1
    exact ⟨es, e'.symm.trans h1, h2⟩
  · exact hw

theorem opW_rows (o : AOp) (h : ∀ x ∈ o.opds, ∀ g ∈ hOf1 (ev x), rows[g]? = rows'[g]?) (hf : Nat) (K : V → List (Nat × RowS) → Prop) (hw : opW o ev rows hf K) : opW o ev rows' hf K := by
  cases o with
  | nilck x =>
    simp only [opW] at hw ⊢
    split at hw
    · exact hw
    · rename_i e; exact ⟨live_loc (h x (by simp [AOp.opds]) _ (by rw [e]; simp [hOf1])) hw.1, hw.2⟩
    · exact hw
    · exact hw
  | b2s x => exact ⟨hw.1, elemsW_loc (h x (by simp [AOp.opds])) hw.2⟩
  | load agg sz a =>
    simp only [opW] at hw ⊢
    split at hw
    · exact hw
    · rename_i e
      have e' := h a (by simp [AOp.opds]) _ (by rw [e]; simp [hOf1]; rfl)
      exact ⟨live_loc e' hw.1, hw.2.1, hw.2.2.1, fun es e1 h1 h2 => hw.2.2.2 es e1 (e'.trans h1) h2⟩
    · exact hw
  | store sz a x =>
    simp only [opW] at hw ⊢
    split at hw
    · rename_i e
      have e' := h a (by simp [AOp.opds]) _ (by rw [e]; simp [hOf1]; rfl)
      exact ⟨live_loc e' hw.1, hw.2.1, hw.2.2.1, (dm_cellsW _ _).mono _ _ (fun cs hc es e1 h1 h2 => hc es e1 (e'.trans h1) h2) hw.2.2.2⟩
    · exact hw
  | slice sz x lo hi =>
    simp only [opW] at hw ⊢
    split at hw
    · exact hw
    · exact hw
    · exact hw
    · rename_i e
      exact ⟨hw.1, hw.2.1, live_loc (h x (by simp [AOp.opds]) _ (by rw [e]; simp [hOf1])) hw.2.2.1, hw.2.2.2⟩
    · exact hw
  | fldA off x =>
    simp only [opW] at hw ⊢
    split at hw
    · exact hw
    · rename_i e; exact ⟨live_loc (h x (by simp [AOp.opds]) _ (by rw [e]; simp [hOf1])) hw.1, hw.2⟩
    · exact hw
  | idxA sz arr x i =>
    simp only [opW] at hw ⊢
    refine (dm_intW _).mono _ _ (fun j hj => ?_) hw
    split at hj
    · exact hj
    · rename_i e; exact ⟨hj.1, live_loc (h x (by simp [AOp.opds]) _ (by rw [e]; simp [hOf1])) hj.2.1, hj.2.2⟩
    · exact hj
    · rename_i e; exact ⟨live_loc (h x (by simp [AOp.opds]) _ (by rw [e]; simp [hOf1])) hj.1, hj.2⟩
    · exact hj
  | len str x =>
    simp only [opW] at hw ⊢
    split at hw
    · exact hw
    · exact hw
    · exact hw
    · rename_i e; exact ⟨live_loc (h x (by simp [AOp.opds]) _ (by rw [e]; simp [hOf1])) hw.1, hw.2⟩
    · exact hw
  | append sz bytes s x =>
    simp only [opW] at hw ⊢
    refine (dm_elemsW _ _ _).mono _ _ (fun xs hx => ?_) (elemsW_loc (h x (by simp [AOp.opds])) hw)
    split at hx
    · exact hx
    · rename_i e
      have e' := h s (by simp [AOp.opds]) _ (by rw [e]; simp [hOf1]; rfl)
      obtain ⟨a1, a2, a3, a4, a5, a6⟩ := hx
      exact ⟨a1, a2, a3, live_loc e' a4, a5, fun es he => a6 es (e'.trans he)⟩
    · exact hx
  | copy sz d s =>
    simp only [opW] at hw ⊢
    refine (dm_elemsW _ _ _).mono _ _ (fun xs hx => ?_) (elemsW_loc (h s (by simp [AOp.opds])) hw)
    split at hx
    · exact hx
    · rename_i e
      have e' := h d (by simp [AOp.opds]) _ (by rw [e]; simp [hOf1]; rfl)
      exact ⟨hx.1, live_loc e' hx.2.1, fun es he => hx.2.2 es (e'.trans he)⟩
    · exact hx
  | clr sz z x =>
    simp only [opW] at hw ⊢
    split at hw
    · rename_i e
      have e' := h x (by simp [AOp.opds]) _ (by rw [e]; simp [hOf1]; rfl)
      exact ⟨hw.1, live_loc e' hw.2.1, hw.2.2.1, fun es he => hw.2.2.2 es (e'.trans he)⟩
    · exact hw
  | nxt x =>
    simp only [opW] at hw ⊢
    split at hw
    · rename_i e
      rw [← h x (by simp [AOp.opds]) _ (by rw [e]; simp [hOf1])]
      exact hw
    · exact hw
  | lkp ok z m k =>
    simp only [opW] at hw ⊢
    split at hw
    · rename_i e _
      rw [← h m (by simp [AOp.opds]) _ (by rw [e]; simp [hOf1])]
      exact hw
    · exact hw
  | upd m k v =>
    simp only [opW] at hw ⊢
    split at hw
    · rename_i e _ _
      rw [← h m (by simp [AOp.opds]) _ (by rw [e]; simp [hOf1])]
      exact hw
    · exact hw
  | _ => exact hw

theorem snapC_loc {v : V} (e : ∀ h ∈ hOf1 v, rows[h]? = rows'[h]?) : snapC rows v = snapC rows' v := by
  unfold snapC
  split
  · rename_i h n off len
    rw [e h (by simp [hOf1])]
  · rename_i h n off len
    rw [e h (by simp [hOf1])]
  · rfl

theorem snapV_loc {v : V} (e : ∀ h ∈ hAll v, rows[h]? = rows'[h]?) : snapV rows v = snapV rows' v := by
  cases v with
  | agg cs =>
    simp only [snapV]
    rw [List.map_congr_left fun x hx => snapC_loc fun h hh => e h (by simp only [hAll, List.mem_flatMap]; exact ⟨x, hx, hh⟩)]
  | any => exact snapC_loc (v := .any) e
  | d x => exact snapC_loc (v := .d x) e
  | osl a b c d f => exact snapC_loc (v := .osl a b c d f) e
  | optr a b c d f => exact snapC_loc (v := .optr a b c d f) e
  | tup a => rfl
  | fn f a b =>
    simp only [snapV]
    rw [List.map_congr_left fun x hx => snapC_loc fun h hh => e h (by simp only [hAll, List.mem_flatMap, List.mem_append]; exact ⟨x, .inl hx, hh⟩),
      List.map_congr_left (l := b) fun x hx => snapC_loc fun h hh => e h (by simp only [hAll, List.mem_flatMap, List.mem_append]; exact ⟨x, .inr hx, hh⟩)]

theorem snapCOk_loc {v : V} (e : ∀ h ∈ hOf1 v, rows[h]? = rows'[h]?) (h : snapCOk rows v) : snapCOk rows' v := by
  cases v with
  | osl sz g n off len =>
    obtain ⟨h1, es, h2, h3⟩ := h
    exact ⟨h1, es, (e g (by simp [hOf1])).symm.trans h2, h3⟩
  | optr sz g n i off =>
    obtain ⟨es, e', h2, h3⟩ := h
    exact ⟨es, e', (e g (by simp [hOf1])).symm.trans h2, h3⟩
  | _ => exact h

theorem snapOk_loc {v : V} (e : ∀ h ∈ hAll v, rows[h]? = rows'[h]?) (h : snapOk rows v) : snapOk rows' v := by
  cases v with
  | agg cs => exact fun x hx => snapCOk_loc (fun g hg => e g (by simp only [hAll, List.mem_flatMap]; exact ⟨x, hx, hg⟩)) (h x hx)
  | osl a b c d f => exact snapCOk_loc (v := .osl a b c d f) e h
  | optr a b c d f => exact snapCOk_loc (v := .optr a b c d f) e h
  | fn f a b =>
    exact ⟨fun x hx => snapCOk_loc (fun g hg => e g (by simp only [hAll, List.mem_flatMap, List.mem_append]; exact ⟨x, .inl hx, hg⟩)) (h.1 x hx),
      fun x hx => snapCOk_loc (fun g hg => e g (by simp only [hAll, List.mem_flatMap, List.mem_append]; exact ⟨x, .inr hx, hg⟩)) (h.2 x hx)⟩
  | _ => exact h

theorem callD_loc {P : Program} {f : FuncId} {vals : List V} {v : V} (e : ∀ x ∈ vals, ∀ h ∈ hAll x, rows[h]? = rows'[h]?) (h : CallD P f vals rows v) : CallD P f vals rows' v := by
  rcases h with h | ⟨h1, h2, h3⟩
  · exact .inl h
  · refine .inr ⟨fun x hx => snapOk_loc (e x hx) (h1 x hx), h2, ?_⟩
    rw [← List.map_congr_left fun x hx => snapV_loc (e x hx)]
    exact h3

theorem callX_loc {P : Program} {f : FuncId} {vals : List V} {v : V} {ups : List (Nat × RowS)} (e : ∀ x ∈ vals, ∀ h ∈ hAll x, rows[h]? = rows'[h]?) (h : CallX P f vals rows v ups) : CallX P f vals rows' v ups := by
  rcases h with ⟨h, rfl⟩ | ⟨⟨h1, h2⟩, rfl⟩ | ⟨h0, sz, es, es', vals0, v0, hrow, hd, hd', hl, hv, hz, hin, hm, hv2, hu⟩
  · exact .inl ⟨callD_loc e h, rfl⟩
  rotate_left
  · obtain ⟨x, hx1, hx2⟩ := List.mem_flatMap.1 hin
    exact .inr (.inr ⟨h0, sz, es, es', vals0, v0, (e x hx1 h0 hx2).symm.trans hrow, hd, hd', hl, hv, hz, hin, hm, hv2, hu⟩)
  · refine .inr (.inl ⟨⟨fun x hx => snapOk_loc (e x hx) (h1 x hx), ?_⟩, rfl⟩)
    rw [← List.map_congr_left fun x hx => snapV_loc (e x hx)]
    exact h2

end

def AAct.opds : AAct → List Opd
  | .op o => o.opds
  | .call f args => f :: args

def AStm.reads (s : AStm) : List Nat :=
  (s.act.opds.filterMap fun x => match x with | .t i => some i | .k _ => none) ++ (match s.guard with | none => [] | some (t, _) => [t])

def AStm.makes (s : AStm) : Bool := match s.act with | .op o => o.makes | .call _ _ => false

/-- looks at no row -/
def AOp.bare : AOp → Bool
  | .mov _ => true
  | _ => false

/-- The handles that a statement looks at. -/
def AStm.foot (s : AStm) (base : Nat) (fr : List V) : List Nat :=
  match s.act with
  | .op o => if o.bare then [] else (if o.makes then [base + s.hi] else []) ++ (o.opds.map (Opd.ev fr)).flatMap hOf1
  | .call f args => match f.ev fr with
    | .fn (.yield _) _ _ => List.range 64
    | .fn _ first cap => (first ++ args.map (Opd.ev fr) ++ cap).flatMap hAll
    | _ => []

section
variable [CtxPred] {P : Program} {base : Nat} {s : AStm} {S S' : St}

theorem ev_loc (h : ∀ t ∈ s.reads, nth S'.fr t = nth S.fr t) : ∀ x ∈ s.act.opds, Opd.ev S.fr x = Opd.ev S'.fr x := by
  intro x hx
  cases x with
  | t i => exact (h i (by unfold AStm.reads; exact List.mem_append_left _ (List.mem_filterMap.2 ⟨.t i, hx, rfl⟩))).symm
  | k v => rfl

theorem act_loc {K : V → List (Nat × RowS) → Prop} (h : ∀ t ∈ s.reads, nth S'.fr t = nth S.fr t) (hr : ∀ g ∈ s.foot base S.fr, S'.rows[g]? = S.rows[g]?) (hw : actW P base s S K) : actW P base s S' K := by
  have he := ev_loc h
  unfold AStm.foot at hr
  unfold actW at hw ⊢
  cases hact : s.act with
  | op o =>
    simp only [hact] at hw hr ⊢
    rw [hact] at he
    cases hb : o.bare with
    | true =>
      obtain ⟨x, rfl⟩ : ∃ x, o = .mov x := by
        cases o <;> first | exact ⟨_, rfl⟩ | exact Bool.noConfusion hb
      refine ⟨fun hm => Bool.noConfusion hm, ?_⟩
      rw [← opW_ev (.mov x) he]
      exact hw.2
    | false =>
    rw [hb] at hr
    simp only [Bool.false_eq_true, if_false] at hr
    refine ⟨fun hm => ?_, ?_⟩
    · rw [hr _ (by simp [hm])]; exact hw.1 hm
    · rw [← opW_ev o he]
      refine opW_rows o (fun x hx g hg => (hr g ?_).symm) _ _ hw.2
      exact List.mem_append_right _ (List.mem_flatMap.2 ⟨_, List.mem_map_of_mem hx, hg⟩)
  | call f args =>
    simp only [hact] at hw hr ⊢
    rw [hact] at he
    simp only [AAct.opds] at he
    rw [← he f (by simp), ← List.map_congr_left (fun x hx => he x (by simp [hx]))]
    unfold callW at hw ⊢
    split at hw
    · rename_i n first cap e1
      simp only [e1] at hr
      obtain ⟨v, ups, h1, h2⟩ := hw
      exact ⟨v, ups, callX_loc (fun x hx g hg => (hr g (List.mem_flatMap.2 ⟨x, hx, hg⟩)).symm) h1, h2⟩
    · rename_i l first cap e1
      simp only [e1] at hr
      obtain ⟨v, ups, h1, h2⟩ := hw
      have he : S'.rows = S.rows := by
        have hl := h1.1
        have hn := hr S.rows.length (List.mem_range.2 hl)
        rw [List.getElem?_eq_none (Nat.le_refl _)] at hn
        have hlen := List.getElem?_eq_none_iff.1 hn
        refine List.ext_getElem? fun g => ?_
        by_cases hg : g < 64
        · exact hr g (List.mem_range.2 hg)
        · rw [List.getElem?_eq_none (by omega), List.getElem?_eq_none (by omega)]
      rw [he]
      exact ⟨v, ups, h1, h2⟩
    · exact hw

theorem step_loc {v : V} {ups : List (Nat × RowS)} (h : ∀ t ∈ s.reads, nth S'.fr t = nth S.fr t) (hr : ∀ g ∈ s.foot base S.fr, S'.rows[g]? = S.rows[g]?) (hw : StepOK P base s S v ups) : StepOK P base s S' v ups := by
  unfold StepOK at hw ⊢
  cases hg : s.guard with
  | none => simp only [hg] at hw ⊢; exact act_loc h hr hw
  | some tw =>
    obtain ⟨t, want⟩ := tw
    simp only [hg] at hw ⊢
    rw [h t (by unfold AStm.reads; rw [hg]; simp)]
    split at hw
    · rename_i b e
      rcases hw with ⟨h1, h2⟩ | h2
      · exact .inl ⟨h1, act_loc h hr h2⟩
      · exact .inr h2
    · exact hw
    · exact hw.elim

end
end Go.Vx

namespace Go.Vx

def compStms (P : Program) (ops : Array Oper) : List Oper → Nat → Option (List AStm)
  | [], _ => some []
  | o :: l, n => (compStm P ops o n).bind fun s => (compStms P ops l (if s.makes then n + 1 else n)).map fun r => s :: r

/-- How many rows the statements make. -/
def nMakes : List AStm → Nat
  | [] => 0
  | s :: l => (if s.makes then 1 else 0) + nMakes l

section
variable [CtxPred] {P : Program} {ops : Array Oper} {Q : Exit → Act → World → Prop} {c0 : Cx} {base : Nat} {ro : Option Nat}

theorem seq_sound : ∀ (l : List Oper) (n : Nat) (sl : List AStm) (K : St → Prop) (S : St) (a : Act) (w : World), compStms P ops l n = some sl → runW P base sl K S → Sat c0 S a w → CtxPred.G c0 →
    (∀ S' a' w', K S' → Sat c0 S' a' w' → Q .normal a' w') → wpListIn (fnc ro) 0 P ops Q l a w
  | [], n, sl, K, S, a, w, hc, hw, hs, hG, hk => by
    injection hc with hc; subst hc
    exact hk S a w hw hs
  | o :: l, n, sl, K, S, a, w, hc, hw, hs, hG, hk => by
    obtain ⟨s, h1, hc⟩ := Option.bind_eq_some_iff.1 hc
    obtain ⟨r, h2, rfl⟩ := Option.map_eq_some_iff.1 hc
    obtain ⟨v, ups, hst, hrest⟩ := stm_det hw
    have := stm_sound (ro := ro) (K' := wpListIn (fnc ro) 0 P ops Q l) (Q := Q) h1 hst hs hG (fun a' w' hs' => seq_sound l _ r K _ a' w' h2 hrest hs' hG hk)
    unfold wpListIn
    split
    · rename_i hw'; rw [if_pos hw'] at this; exact this
    · rename_i hw'; rw [if_neg hw'] at this; exact this

theorem seqI_sound : ∀ (l : List Oper) (n : Nat) (fl : List Bool) (sl : List AStm) (K : St → Prop) (S : St) (a : Act) (w : World), compStms P ops l n = some sl → runI P base fl sl K S → Sat c0 S a w → CtxPred.G c0 →
    (∀ S' a' w', K S' → Sat c0 S' a' w' → Q .normal a' w') → wpListIn (fnc ro) 0 P ops Q l a w
  | [], n, fl, sl, K, S, a, w, hc, hw, hs, hG, hk => by
    injection hc with hc; subst hc
    exact hk S a w (by cases fl <;> simpa [runI] using hw) hs
  | o :: l, n, fl, sl, K, S, a, w, hc, hw, hs, hG, hk => by
    obtain ⟨s, h1, hc⟩ := Option.bind_eq_some_iff.1 hc
    obtain ⟨r, h2, rfl⟩ := Option.map_eq_some_iff.1 hc
    have plain : ∀ fl', (stmU P base s S fun v ups => runI P base fl' r K (S.after s v ups)) → wpListIn (fnc ro) 0 P ops Q (o :: l) a w := fun fl' hw => by
      obtain ⟨v, ups, hst, hrest⟩ := stm_det hw
      have := stm_sound (ro := ro) (K' := wpListIn (fnc ro) 0 P ops Q l) (Q := Q) h1 hst hs hG (fun a' w' hs' => seqI_sound l _ fl' r K _ a' w' h2 hrest hs' hG hk)
      unfold wpListIn
      split
      · rename_i hw'; rw [if_pos hw'] at this; exact this
      · rename_i hw'; rw [if_neg hw'] at this; exact this
    match fl, hw with
    | [], hw => exact plain [] hw
    | false :: fl, hw => exact plain fl hw
    | true :: fl, hw =>
      have := inl_sound (ro := ro) (K' := wpListIn (fnc ro) 0 P ops Q l) (Q := Q) h1 hw hs hG (fun v rows' a' w' hkk hs' => seqI_sound l _ fl r K _ a' w' h2 hkk hs' hG hk)
      unfold wpListIn
      split
      · rename_i hw'; rw [if_pos hw'] at this; exact this
      · rename_i hw'; rw [if_neg hw'] at this; exact this

theorem compStms_get : ∀ (l : List Oper) (n : Nat) (sl : List AStm), compStms P ops l n = some sl → sl.length = l.length ∧ ∀ (i : Nat) (o : Oper), l[i]? = some o → ∃ s n', sl[i]? = some s ∧ compStm P ops o n' = some s
  | [], n, sl, hc => by
    injection hc with hc; subst hc
    exact ⟨rfl, fun i o h => by simp at h⟩
  | o :: l, n, sl, hc => by
    obtain ⟨s, h1, hc⟩ := Option.bind_eq_some_iff.1 hc
    obtain ⟨r, h2, rfl⟩ := Option.map_eq_some_iff.1 hc
    obtain ⟨h3, h4⟩ := compStms_get l _ r h2
    refine ⟨by simp [h3], fun i o' h => ?_⟩
    cases i with
    | zero => simp at h; subst h; exact ⟨s, n, rfl, h1⟩
    | succ i => exact h4 i o' (by simpa using h)

def disj (a b : List Nat) : Bool := a.all fun x => !b.contains x

/-- May the statement i (with its foot and what it wrote) and a later one stand in either order? -/
def compat (acc : List (List Nat × List Nat)) (pre : List Nat) (F W : List Nat) : Bool :=
  acc.zipIdx.all fun (p, j) => pre.contains j || (disj p.2 F && disj W p.1)

def runD [CtxPred] (P : Program) (base : Nat) : List (AStm × List Nat) → List (List Nat × List Nat) → (St → Prop) → St → Prop
  | [], _, K, S => K S
  | (s, pre) :: l, acc, K, S => stmU P base s S fun v ups =>
    compat acc pre (s.foot base S.fr) (ups.map (·.1)) = true ∧ (ups.map (·.1)).all (s.foot base S.fr).contains = true ∧ runD P base l (acc ++ [(s.foot base S.fr, ups.map (·.1))]) K (S.after s v ups)

abbrev Tr := List (V × List (Nat × RowS))

/-- The state ahead of the statement k. -/
def stAt (S : St) (sl : List (AStm × List Nat)) (tr : Tr) : Nat → St
  | 0 => S
  | k + 1 => match sl[k]?, tr[k]? with
    | some s, some p => (stAt S sl tr k).after s.1 p.1 p.2
    | _, _ => stAt S sl tr k

theorem stAt_cons (S : St) (x : AStm × List Nat) (sl : List (AStm × List Nat)) (p : V × List (Nat × RowS)) (tr : Tr) (k : Nat) : stAt S (x :: sl) (p :: tr) (k + 1) = stAt (S.after x.1 p.1 p.2) sl tr k := by
  induction k with
  | zero => rfl
  | succ k ih => rw [stAt, ih]; simp [stAt]

theorem compat_spec {acc : List (List Nat × List Nat)} {pre F W : List Nat} (h : compat acc pre F W = true) {j : Nat} {p : List Nat × List Nat} (hj : acc[j]? = some p) (hp : j ∉ pre) :
    (∀ x ∈ p.2, x ∉ F) ∧ ∀ x ∈ W, x ∉ p.1 := by
  unfold compat at h
  rw [List.all_eq_true] at h
  have hm : (p, j) ∈ acc.zipIdx := List.mk_mem_zipIdx_iff_getElem?.2 hj
  have := h _ hm
  simp only [Bool.or_eq_true, Bool.and_eq_true, List.contains_iff_mem, hp, false_or] at this
  obtain ⟨h1, h2⟩ := this
  simp only [disj, List.all_eq_true, Bool.not_eq_true', List.contains_eq_mem, decide_eq_false_iff_not] at h1 h2
  exact ⟨h1, h2⟩

theorem runD_trace : ∀ (sl : List (AStm × List Nat)) (acc : List (List Nat × List Nat)) (K : St → Prop) (S : St), runD P base sl acc K S →
    ∃ (tr : Tr) (A : List (List Nat × List Nat)), tr.length = sl.length ∧ A.length = sl.length ∧ K (stAt S sl tr sl.length) ∧
      ∀ (k : Nat) (x : AStm × List Nat), sl[k]? = some x → ∃ p, tr[k]? = some p ∧ StepOK P base x.1 (stAt S sl tr k) p.1 p.2 ∧ A[k]? = some (x.1.foot base (stAt S sl tr k).fr, p.2.map (·.1)) ∧
        (∀ g ∈ p.2.map (·.1), g ∈ x.1.foot base (stAt S sl tr k).fr) ∧
        ∀ (j : Nat) (q : List Nat × List Nat), j < acc.length + k → (acc ++ A)[j]? = some q → j ∉ x.2 → (∀ g ∈ q.2, g ∉ x.1.foot base (stAt S sl tr k).fr) ∧ ∀ g ∈ p.2.map (·.1), g ∉ q.1
  | [], acc, K, S, h => ⟨[], [], rfl, rfl, h, fun k x hx => by simp at hx⟩
  | (s, pre) :: sl, acc, K, S, h => by
    obtain ⟨v, ups, hst, hcm, hsub, hrest⟩ := stm_det h
    obtain ⟨tr, A, h1, h2, h3, h4⟩ := runD_trace sl _ K _ hrest
    refine ⟨(v, ups) :: tr, (s.foot base S.fr, ups.map (·.1)) :: A, by simp [h1], by simp [h2], ?_, fun k x hx => ?_⟩
    · simp only [List.length_cons]
      rw [stAt_cons]; exact h3
    · cases k with
      | zero =>
        simp at hx; subst hx
        refine ⟨(v, ups), rfl, hst, rfl, fun g hg => by have := List.all_eq_true.1 hsub g hg; simpa [stAt] using this, fun j q hj hq hp => ?_⟩
        rw [List.getElem?_append_left (by simpa using hj)] at hq
        exact compat_spec hcm hq hp
      | succ k =>
        obtain ⟨p, e1, e2, e3, e4, e5⟩ := h4 k x (by simpa using hx)
        refine ⟨p, by simpa using e1, by rw [stAt_cons]; exact e2, by rw [stAt_cons]; simpa using e3, by rw [stAt_cons]; exact e4, fun j q hj hq hp => ?_⟩
        rw [stAt_cons]
        exact e5 j q (by simp; omega) (by simpa using hq) hp

/-- The slots of statements that no edge orders lie apart. -/
def indep (x y : AStm) : Bool :=
  (match x.dst with | some d => !y.reads.contains d && y.dst != some d | none => true) && (match y.dst with | some d => !x.reads.contains d | none => true)

def slotsOk (sl : List (AStm × List Nat)) : Bool :=
  sl.zipIdx.all fun (y, j) => sl.zipIdx.all fun (x, i) => !(decide (i < j)) || y.2.contains i || indep x.1 y.1

/-- The forerunners of each operation, by the edges that bind. -/
def preOf (pres : List (List Nat)) (o : Oper) : List Nat :=
  (o.after.toList.filter (Region.binds .any)).flatMap fun e => e.on :: (pres[e.on]?.getD [])

def presOf : List Oper → List (List Nat) → List (List Nat)
  | [], acc => acc
  | o :: l, acc => presOf l (acc ++ [(preOf acc o).eraseDups])

def preOk (l : List Oper) (pres : List (List Nat)) : Bool :=
  l.zipIdx.all fun (o, j) => (pres[j]?.getD []).all fun i => o.after.toList.any fun e => Region.binds .any e && (e.on == i || (pres[e.on]?.getD []).contains i)

def edgesDown (l : List Oper) : Bool := l.zipIdx.all fun (o, i) => o.after.toList.all fun e => !(Region.binds .any e) || decide (e.on < i)

theorem zip_all {α : Type} {l : List α} {f : α × Nat → Bool} (h : l.zipIdx.all f = true) {i : Nat} {x : α} (hx : l[i]? = some x) : f (x, i) = true :=
  List.all_eq_true.1 h _ (List.mk_mem_zipIdx_iff_getElem?.2 hx)

theorem preOk_spec {l : List Oper} {pres : List (List Nat)} (h : preOk l pres = true) {j : Nat} {o : Oper} (hj : l[j]? = some o) {i : Nat} (hi : i ∈ pres[j]?.getD []) :
    ∃ e ∈ o.after.toList, Region.binds .any e = true ∧ (e.on = i ∨ i ∈ pres[e.on]?.getD []) := by
  have h1 := zip_all h hj
  have h2 := List.all_eq_true.1 h1 i hi
  obtain ⟨e, h3, h4⟩ := List.any_eq_true.1 h2
  simp only [Bool.and_eq_true, Bool.or_eq_true, beq_iff_eq, List.contains_iff_mem] at h4
  exact ⟨e, h3, h4.1, h4.2⟩

theorem edges_spec {l : List Oper} (h : edgesDown l = true) {j : Nat} {o : Oper} (hj : l[j]? = some o) {e : Edge} (he : e ∈ o.after.toList) (hb : Region.binds .any e = true) : e.on < j := by
  have h2 := List.all_eq_true.1 (zip_all h hj) e he
  simpa [hb] using h2

theorem slots_spec {sl : List (AStm × List Nat)} (h : slotsOk sl = true) {i j : Nat} {x y : AStm × List Nat} (hx : sl[i]? = some x) (hy : sl[j]? = some y) (hij : i < j) (hp : i ∉ y.2) :
    (∀ d, x.1.dst = some d → d ∉ y.1.reads ∧ y.1.dst ≠ some d) ∧ ∀ d, y.1.dst = some d → d ∉ x.1.reads := by
  have h1 := zip_all (zip_all h hy) hx
  simp only [Bool.or_eq_true, Bool.not_eq_true', decide_eq_false_iff_not, List.contains_iff_mem, hp, hij, not_true, or_false, false_or, indep, Bool.and_eq_true] at h1
  obtain ⟨h2, h3⟩ := h1
  refine ⟨fun d hd => ?_, fun d hd => ?_⟩
  · rw [hd] at h2; simpa using h2
  · rw [hd] at h3; simpa using h3

/-- How many operations are not yet listed. -/
def unl (n : Nat) (L : Array Bool) : Nat := (List.range n).countP fun i => !L.getD i true

theorem countP_one {p q : Nat → Bool} : ∀ (l : List Nat) (i : Nat), l.Nodup → i ∈ l → p i = true → q i = false → (∀ j, j ≠ i → p j = q j) → l.countP p = l.countP q + 1
  | [], i, _, hi, _, _, _ => by simp at hi
  | x :: l, i, hn, hi, hp, hq, hj => by
    have hn' := List.nodup_cons.1 hn
    by_cases hx : x = i
    · subst hx
      have : l.countP p = l.countP q := List.countP_congr fun y hy => by
        rw [hj y (fun e => hn'.1 (e ▸ hy))]
      simp [hp, hq, this]
    · have hi' : i ∈ l := by
        rcases List.mem_cons.1 hi with h | h
        · exact absurd h.symm hx
        · exact h
      have ih := countP_one l i hn'.2 hi' hp hq hj
      simp only [List.countP_cons, hj x hx, ih]
      omega

theorem unl_set {n i : Nat} {L : Array Bool} (hi : i < n) (hs : L.size = n) (hl : L.getD i true = false) : unl n L = unl n (L.setIfInBounds i true) + 1 := by
  refine countP_one _ i List.nodup_range (List.mem_range.2 hi) (by simp [hl]) ?_ fun j hj => ?_
  · simp [Array.getD_eq_getD_getElem?, hs, hi]
  · simp [Array.getD_eq_getD_getElem?, Ne.symm hj]

theorem nth_get (l : List V) (i : Nat) (h : i < l.length) : l[i]? = some (nth l i) := by
  induction l generalizing i with
  | nil => simp at h
  | cons x l ih =>
    cases i with
    | zero => rfl
    | succ i => simpa [nth] using ih i (by simpa using h)

theorem fr_ext {a b : List V} (hl : a.length = b.length) (h : ∀ i, nth a i = nth b i) : a = b := by
  apply List.ext_getElem?
  intro i
  by_cases hi : i < a.length
  · rw [nth_get a i hi, nth_get b i (by omega), h]
  · rw [List.getElem?_eq_none (by omega), List.getElem?_eq_none (by omega)]

theorem putV_nth (fr : List V) (dst : Option Nat) (v : V) (t : Nat) : nth (putV fr dst v) t = if dst = some t ∧ t < fr.length then v else nth fr t := by
  cases dst with
  | none => simp [putV]
  | some d => simp [putV, nth_setN]

theorem putV_length (fr : List V) (dst : Option Nat) (v : V) : (putV fr dst v).length = fr.length := by
  cases dst <;> simp [putV, setN_length]

theorem setRows_length : ∀ (ups : List (Nat × RowS)) (rows : Rows), (setRows rows ups).length = rows.length
  | [], _ => rfl
  | (h, r) :: ups, rows => by simp [setRows, setRows_length ups]

theorem setRows_other : ∀ (ups : List (Nat × RowS)) (rows : Rows) (g : Nat), g ∉ ups.map (·.1) → (setRows rows ups)[g]? = rows[g]?
  | [], _, _, _ => rfl
  | (h, r) :: ups, rows, g, hg => by
    simp only [List.map_cons, List.mem_cons, not_or] at hg
    rw [setRows, setRows_other ups _ g hg.2, List.getElem?_set_ne (Ne.symm hg.1)]

theorem setRows_same : ∀ (ups : List (Nat × RowS)) (rows rows' : Rows) (g : Nat), rows.length = rows'.length → g ∈ ups.map (·.1) → (setRows rows ups)[g]? = (setRows rows' ups)[g]?
  | [], _, _, _, _, hg => by simp at hg
  | (h, r) :: ups, rows, rows', g, hl, hg => by
    by_cases h2 : g ∈ ups.map (·.1)
    · exact setRows_same ups _ _ g (by simp [hl]) h2
    · have : g = h := by simpa [h2] using hg
      subst this
      simp only [setRows]
      rw [setRows_other ups _ g h2, setRows_other ups _ g h2]
      simp [List.getElem?_set, hl]

end
end Go.Vx

namespace Go.Vx

section
variable [CtxPred] {P : Program} {ops : Array Oper} {Q : Exit → Act → World → Prop} {c0 : Cx} {base : Nat} {S0 : St} {sl : List (AStm × List Nat)} {tr : Tr}

theorem stAt_succ {k : Nat} {x : AStm × List Nat} {p : V × List (Nat × RowS)} (hx : sl[k]? = some x) (hp : tr[k]? = some p) : stAt S0 sl tr (k + 1) = (stAt S0 sl tr k).after x.1 p.1 p.2 := by
  simp [stAt, hx, hp]

theorem stAt_len (k : Nat) : (stAt S0 sl tr k).fr.length = S0.fr.length ∧ (stAt S0 sl tr k).rows.length = S0.rows.length := by
  induction k with
  | zero => exact ⟨rfl, rfl⟩
  | succ k ih =>
    unfold stAt
    split
    · simp [St.after, putV_length, setRows_length, ih]
    · exact ih

theorem stAt_fr {t m : Nat} : ∀ (d : Nat), (∀ j, m ≤ j → j < m + d → ∀ x, sl[j]? = some x → x.1.dst ≠ some t) → nth (stAt S0 sl tr (m + d)).fr t = nth (stAt S0 sl tr m).fr t
  | 0, _ => rfl
  | d + 1, h => by
    have ih := stAt_fr d fun j h1 h2 => h j h1 (by omega)
    rw [← ih]
    show nth (stAt S0 sl tr (m + d + 1)).fr t = _
    have hq := fun x hx => h (m + d) (by omega) (by omega) x hx
    clear ih h
    generalize m + d = q at *
    simp only [stAt]
    split
    · rename_i x p hx hp
      simp only [St.after, putV_nth]
      rw [if_neg (fun hh => hq x hx hh.1)]
    · rfl

theorem stAt_rows {g m : Nat} : ∀ (d : Nat), (∀ j, m ≤ j → j < m + d → ∀ p, tr[j]? = some p → g ∉ p.2.map (·.1)) → (stAt S0 sl tr (m + d)).rows[g]? = (stAt S0 sl tr m).rows[g]?
  | 0, _ => rfl
  | d + 1, h => by
    have ih := stAt_rows d fun j h1 h2 => h j h1 (by omega)
    rw [← ih]
    show (stAt S0 sl tr (m + d + 1)).rows[g]? = _
    have hq := fun p hp => h (m + d) (by omega) (by omega) p hp
    clear ih h
    generalize m + d = q at *
    simp only [stAt]
    split
    · rename_i x p hx hp
      simp only [St.after]
      exact setRows_other _ _ _ (hq p hp)
    · rfl

theorem any_sound {ro : Option Nat} {pres : List (List Nat)} {sts : List AStm} {K : St → Prop} {a : Act} {w : World} (hc : compStms P ops ops.toList 0 = some sts) (hsl : sl = sts.zip pres) (hpl : pres.length = sts.length) (hpre : preOk ops.toList pres = true)
    (hslots : slotsOk sl = true) (hdown : edgesDown ops.toList = true) (hrun : runD P base sl [] K S0) (hs : Sat c0 S0 a w) (hG : CtxPred.G c0) (hk : ∀ S' a' w', K S' → Sat c0 S' a' w' → Q .normal a' w') :
    wpAnyIn (fnc ro) 0 P .any ops Q ops.size (Array.replicate ops.size false) a w := by
  obtain ⟨tr, A, htr, hA, hK, hstep⟩ := runD_trace sl [] K S0 hrun
  obtain ⟨hlen, hget⟩ := compStms_get _ _ _ hc
  have hn : sl.length = ops.size := by rw [hsl, List.length_zip, hlen, hpl, hlen]; simp
  have hat : ∀ (i : Nat) (o : Oper), ops[i]? = some o → ∃ (s : AStm) (pre : List Nat) (n' : Nat), sl[i]? = some (s, pre) ∧ pres[i]? = some pre ∧ compStm P ops o n' = some s := by
    intro i o ho
    obtain ⟨s, n', h1, h2⟩ := hget i o (by simpa using ho)
    have hi : i < pres.length := by rw [hpl]; exact (List.getElem?_eq_some_iff.1 h1).1
    refine ⟨s, pres[i], n', ?_, List.getElem?_eq_getElem hi, h2⟩
    rw [hsl, List.getElem?_zip_eq_some]
    exact ⟨h1, List.getElem?_eq_getElem hi⟩
  have hpz : ∀ (j : Nat) (x : AStm × List Nat), sl[j]? = some x → pres[j]? = some x.2 := by
    intro j x hx
    rw [hsl, List.getElem?_zip_eq_some] at hx
    exact hx.2
  have hWF : ∀ (i : Nat) (x : AStm × List Nat) (p : V × List (Nat × RowS)), sl[i]? = some x → tr[i]? = some p → StepOK P base x.1 (stAt S0 sl tr i) p.1 p.2 ∧ A[i]? = some (x.1.foot base (stAt S0 sl tr i).fr, p.2.map (·.1)) ∧ (∀ g ∈ p.2.map (·.1), g ∈ x.1.foot base (stAt S0 sl tr i).fr) ∧
      ∀ (j : Nat) (q : List Nat × List Nat), j < i → A[j]? = some q → j ∉ x.2 → (∀ g ∈ q.2, g ∉ x.1.foot base (stAt S0 sl tr i).fr) ∧ ∀ g ∈ p.2.map (·.1), g ∉ q.1 := by
    intro i x p hx hp
    obtain ⟨p', e1, e2, e3, e4, e5⟩ := hstep i x hx
    rw [hp] at e1; injection e1 with e1; subst e1
    exact ⟨e2, e3, e4, fun j q hj hq hjp => e5 j q (by simpa using hj) (by simpa using hq) hjp⟩
  have key : ∀ (fuel : Nat) (L : Array Bool) (a : Act) (w : World), L.size = ops.size → unl ops.size L = fuel →
      (∀ (j : Nat) (x : AStm × List Nat), sl[j]? = some x → L.getD j false = true → ∀ i ∈ x.2, L.getD i false = true) →
      (∃ ST : St, Sat c0 ST a w ∧ ST.fr.length = S0.fr.length ∧ ST.rows.length = S0.rows.length ∧
        (∀ (t k : Nat), k ≤ ops.size → (∀ (j : Nat) (x : AStm × List Nat), sl[j]? = some x → x.1.dst = some t → (j < k ↔ L.getD j false = true)) → nth ST.fr t = nth (stAt S0 sl tr k).fr t) ∧
        (∀ (g k : Nat), k ≤ ops.size → (∀ (j : Nat) (p : V × List (Nat × RowS)), tr[j]? = some p → g ∈ p.2.map (·.1) → (j < k ↔ L.getD j false = true)) → ST.rows[g]? = (stAt S0 sl tr k).rows[g]?)) →
      wpAnyIn (fnc ro) 0 P .any ops Q fuel L a w := by
    intro fuel
    induction fuel with
    | zero =>
      intro L a w hL hu hcl ⟨ST, hsat, hfl, hrl, hF, hR⟩
      have hall : ∀ j, j < ops.size → L.getD j true = true := by
        intro j hj
        have h0 : ∀ b ∈ List.range ops.size, ¬ ((!L.getD b true) = true) := by
          have := List.countP_eq_zero.1 hu
          exact this
        have := h0 j (List.mem_range.2 hj)
        simpa using this
      have hall' : ∀ j, j < ops.size → L.getD j false = true := by
        intro j hj
        have := hall j hj
        rw [Array.getD_eq_getD_getElem?, Array.getElem?_eq_getElem (by omega)] at this ⊢
        simpa using this
      have hrd : Region.ready .any ops L = [] := by
        unfold Region.ready
        rw [List.filter_eq_nil_iff]
        intro i hi
        have := hall i (List.mem_range.1 hi)
        simp [this]
      refine ⟨hrd, hk ST a w ?_ hsat⟩
      have h1 : ST = stAt S0 sl tr ops.size := by
        have hl := stAt_len (S0 := S0) (sl := sl) (tr := tr) ops.size
        have hfr : ST.fr = (stAt S0 sl tr ops.size).fr := fr_ext (by omega) fun t => hF t ops.size (Nat.le_refl _) fun j x hx _ => by
          have hj : j < ops.size := by rw [← hn]; exact (List.getElem?_eq_some_iff.1 hx).1
          simp [hj, hall' j hj]
        have hrr : ST.rows = (stAt S0 sl tr ops.size).rows := List.ext_getElem? fun g => hR g ops.size (Nat.le_refl _) fun j p hp _ => by
          have hj : j < ops.size := by rw [← hn, ← htr]; exact (List.getElem?_eq_some_iff.1 hp).1
          simp [hj, hall' j hj]
        cases ST
        simp only at hfr hrr
        rw [hfr, hrr]
      rw [h1, ← hn]
      exact hK
    | succ fuel ih =>
      intro L a w hL hu hcl ⟨ST, hsat, hfl, hrl, hF, hR⟩
      refine ⟨fun hrd => ?_, fun i hi => ?_⟩
      · -- something is ready
        exfalso
        have hex : ∃ j, j < ops.size ∧ L.getD j true = false := by
          have hpos : 0 < unl ops.size L := by omega
          obtain ⟨j, hj, hj2⟩ := List.countP_pos_iff.1 hpos
          exact ⟨j, List.mem_range.1 hj, by simpa using hj2⟩
        -- the least
        have hleast : ∃ j, (j < ops.size ∧ L.getD j true = false) ∧ ∀ m, m < j → ¬ (m < ops.size ∧ L.getD m true = false) := by
          obtain ⟨j, hj⟩ := hex
          induction j using Nat.strongRecOn with
          | _ j ihj =>
            by_cases hm : ∃ m, m < j ∧ (m < ops.size ∧ L.getD m true = false)
            · obtain ⟨m, hlt, hm⟩ := hm
              exact ihj m hlt hm
            · exact ⟨j, hj, fun m hm1 hm2 => hm ⟨m, hm1, hm2⟩⟩
        obtain ⟨j, ⟨hj1, hj2⟩, hj3⟩ := hleast
        have hmem : j ∈ Region.ready .any ops L := by
          unfold Region.ready
          refine List.mem_filter.2 ⟨List.mem_range.2 hj1, ?_⟩
          have ho : ops[j]? = some ops[j] := Array.getElem?_eq_getElem hj1
          simp only [hj2, ho, Option.map_some, Option.getD_some, Bool.not_false, Bool.true_and]
          rw [Array.all_eq_true_iff_forall_mem]
          intro e he
          by_cases hb : Region.binds .any e = true
          · have hlt := edges_spec hdown (j := j) (o := ops[j]) (by simp) (by simpa using he) hb
            have := hj3 e.on hlt
            have h2 : L.getD e.on true = true := by
              cases hh : L.getD e.on true with
              | true => rfl
              | false => exact absurd ⟨by omega, hh⟩ this
            have h3 : L.getD e.on false = true := by
              rw [Array.getD_eq_getD_getElem?, Array.getElem?_eq_getElem (by omega)] at h2 ⊢
              simpa using h2
            simp [h3]
          · simp [hb]
        rw [hrd] at hmem
        simp at hmem
      · -- one that is ready is carried out
        unfold Region.ready at hi
        obtain ⟨hin, hrdy⟩ := List.mem_filter.1 hi
        have hin := List.mem_range.1 hin
        have ho : ops[i]? = some ops[i] := Array.getElem?_eq_getElem hin
        simp only [ho, Option.map_some, Option.getD_some, Bool.and_eq_true, Bool.not_eq_true'] at hrdy
        obtain ⟨hiL, hedges⟩ := hrdy
        have hiT : L.getD i false = false := by
          rw [Array.getD_eq_getD_getElem?, Array.getElem?_eq_getElem (by omega)] at hiL ⊢
          simpa using hiL
        obtain ⟨s, pre, n', hx, hpi, hcs⟩ := hat i _ ho
        have hti : i < tr.length := by rw [htr, hn]; exact hin
        have hp : tr[i]? = some tr[i] := List.getElem?_eq_getElem hti
        generalize tr[i] = p at hp
        obtain ⟨hst, hAi, hsub, hcomp⟩ := hWF i _ p hx hp
        have hpreT : ∀ j ∈ pre, L.getD j false = true := by
          intro j hj
          obtain ⟨e, he, hb, hej⟩ := preOk_spec hpre (j := i) (o := ops[i]) (by simp) (by rw [hpi]; simpa using hj)
          have heT : L.getD e.on false = true := by
            have := (Array.all_eq_true_iff_forall_mem.1 hedges) e (by simpa using he)
            simpa [hb] using this
          rcases hej with rfl | hej
          · exact heT
          · have hlt := edges_spec hdown (j := i) (o := ops[i]) (by simp) he hb
            have heo : e.on < sl.length := by omega
            have hse : sl[e.on]? = some sl[e.on] := List.getElem?_eq_getElem heo
            have := hpz _ _ hse
            rw [this] at hej
            exact hcl e.on _ hse heT j (by simpa using hej)
        -- who stands behind i is not yet carried out, or free of it
        have hlater : ∀ (j : Nat) (x : AStm × List Nat), sl[j]? = some x → L.getD j false = true → i ∉ x.2 := by
          intro j x hxj hT hm
          have := hcl j x hxj hT i hm
          rw [hiT] at this; cases this
        have hreads : ∀ t ∈ s.reads, nth ST.fr t = nth (stAt S0 sl tr i).fr t := by
          intro t ht
          refine hF t i (by omega) fun j x hxj hd => ⟨fun hj => ?_, fun hT => ?_⟩
          · by_cases hm : j ∈ pre
            · exact hpreT j hm
            · exact absurd ht ((slots_spec hslots hxj hx hj hm).1 t hd).1
          · rcases Nat.lt_trichotomy j i with h | h | h
            · exact h
            · subst h; rw [hiT] at hT; cases hT
            · exact absurd ht ((slots_spec hslots hx hxj h (hlater j x hxj hT)).2 t hd)
        have hAj : ∀ (j : Nat) (p' : V × List (Nat × RowS)), tr[j]? = some p' → ∃ x, sl[j]? = some x ∧ A[j]? = some (x.1.foot base (stAt S0 sl tr j).fr, p'.2.map (·.1)) := by
          intro j p' hpj
          have hj : j < sl.length := by rw [← htr]; exact (List.getElem?_eq_some_iff.1 hpj).1
          have hxj : sl[j]? = some sl[j] := List.getElem?_eq_getElem hj
          exact ⟨_, hxj, (hWF j _ p' hxj hpj).2.1⟩
        have hfoot : ∀ g ∈ s.foot base (stAt S0 sl tr i).fr, ST.rows[g]? = (stAt S0 sl tr i).rows[g]? := by
          intro g hg
          refine hR g i (by omega) fun j p' hpj hgp => ⟨fun hj => ?_, fun hT => ?_⟩
          · by_cases hm : j ∈ pre
            · exact hpreT j hm
            · obtain ⟨x, hxj, hAx⟩ := hAj j p' hpj
              exact absurd hg ((hcomp j _ hj hAx hm).1 g hgp)
          · rcases Nat.lt_trichotomy j i with h | h | h
            · exact h
            · subst h; rw [hiT] at hT; cases hT
            · obtain ⟨x, hxj, hAx⟩ := hAj j p' hpj
              exact absurd hg (((hWF j x p' hxj hpj).2.2.2 i _ h hAi (hlater j x hxj hT)).2 g hgp)
        have hst' : StepOK P base s ST p.1 p.2 := step_loc hreads hfoot hst
        have hsz : ∀ (j : Nat), (L.setIfInBounds i true).getD j false = true ↔ (L.getD j false = true ∨ j = i) := by
          intro j
          rw [Array.getD_eq_getD_getElem?, Array.getElem?_setIfInBounds]
          by_cases hji : i = j
          · subst hji; simp [hL, hin]
          · rw [if_neg hji, ← Array.getD_eq_getD_getElem?]
            exact ⟨.inl, fun h => h.resolve_right (Ne.symm hji)⟩
        have hlS := stAt_len (S0 := S0) (sl := sl) (tr := tr) i
        have hsucc := stAt_succ (S0 := S0) hx hp
        have hgo : ∀ a' w', Sat c0 (ST.after s p.1 p.2) a' w' → wpAnyIn (fnc ro) 0 P .any ops Q fuel (L.setIfInBounds i true) a' w' := by
          intro a' w' hsat'
          refine ih (L.setIfInBounds i true) a' w' (by simpa using hL) ?_ ?_ ⟨ST.after s p.1 p.2, hsat', by simp [St.after, putV_length, hfl], by simp [St.after, setRows_length, hrl], ?_, ?_⟩
          · have := unl_set hin hL hiL
            omega
          · intro j x hxj hT m hm
            rw [hsz] at hT ⊢
            rcases hT with hT | rfl
            · exact .inl (hcl j x hxj hT m hm)
            · rw [hx] at hxj; injection hxj with hxj; subst hxj
              exact .inl (hpreT m hm)
          · intro t k hkn H
            simp only [St.after, putV_nth]
            by_cases hd : s.dst = some t
            · have hik : i < k := (H i _ hx hd).2 ((hsz i).2 (.inr rfl))
              have hno : ∀ j, i + 1 ≤ j → j < i + 1 + (k - (i + 1)) → ∀ (x : AStm × List Nat), sl[j]? = some x → x.1.dst ≠ some t := by
                intro j h1 h2 x hxj hdx
                have hT := (H j x hxj hdx).1 (by omega)
                rw [hsz] at hT
                have hT := hT.resolve_right (by omega)
                exact absurd hdx ((slots_spec hslots hx hxj (by omega) (hlater j x hxj hT)).1 t hd).2
              have h3 := stAt_fr (S0 := S0) (tr := tr) (m := i + 1) (k - (i + 1)) hno
              rw [show i + 1 + (k - (i + 1)) = k by omega, hsucc] at h3
              rw [h3]
              simp only [St.after, putV_nth, hd, true_and, hfl, hlS.1]
              by_cases hlt : t < S0.fr.length
              · simp [hlt]
              · simp only [hlt, if_false]
                rw [nth_none _ _ (by omega), nth_none _ _ (by omega)]
            · rw [if_neg (fun h => hd h.1)]
              refine hF t k hkn fun j x hxj hdx => ?_
              have hji : j ≠ i := fun e => by
                subst e; rw [hx] at hxj; injection hxj with hxj; subst hxj; exact hd hdx
              rw [H j x hxj hdx, hsz]
              exact ⟨fun h => h.resolve_right hji, .inl⟩
          · intro g k hkn H
            simp only [St.after]
            by_cases hg : g ∈ p.2.map (·.1)
            · have hik : i < k := (H i _ hp hg).2 ((hsz i).2 (.inr rfl))
              have hno : ∀ j, i + 1 ≤ j → j < i + 1 + (k - (i + 1)) → ∀ (p' : V × List (Nat × RowS)), tr[j]? = some p' → g ∉ p'.2.map (·.1) := by
                intro j h1 h2 p' hpj hgp
                have hT := (H j p' hpj hgp).1 (by omega)
                rw [hsz] at hT
                have hT := hT.resolve_right (by omega)
                obtain ⟨x, hxj, hAx⟩ := hAj j p' hpj
                exact ((hWF j x p' hxj hpj).2.2.2 i _ (by omega) hAi (hlater j x hxj hT)).2 g hgp (hsub g hg)
              have h3 := stAt_rows (S0 := S0) (sl := sl) (m := i + 1) (k - (i + 1)) hno
              rw [show i + 1 + (k - (i + 1)) = k by omega, hsucc] at h3
              rw [h3]
              simp only [St.after]
              exact setRows_same _ _ _ g (by omega) hg
            · rw [setRows_other _ _ _ hg]
              refine hR g k hkn fun j p' hpj hgp => ?_
              have hji : j ≠ i := fun e => by
                subst e; rw [hp] at hpj; injection hpj with hpj; subst hpj; exact hg hgp
              rw [H j p' hpj hgp, hsz]
              exact ⟨fun h => h.resolve_right hji, .inl⟩
        have := stm_sound (ro := ro) (Q := Q) (K' := wpAnyIn (fnc ro) 0 P .any ops Q fuel (L.setIfInBounds i true)) hcs hst' hsat hG hgo
        unfold wpOpIn
        rw [ho]
        simp only
        split
        · rename_i hw; rw [if_pos hw] at this; exact this
        · rename_i hw; rw [if_neg hw] at this; exact this
  refine key ops.size (Array.replicate ops.size false) a w (by simp) ?_ ?_ ⟨S0, hs, rfl, rfl, ?_, ?_⟩
  · unfold unl
    rw [List.countP_eq_length.2]
    · simp
    · intro i hi
      have := List.mem_range.1 hi
      simp [Array.getD_eq_getD_getElem?, this]
  · intro j x hx hT
    exfalso
    rw [Array.getD_eq_getD_getElem?, Array.getElem?_replicate] at hT
    split at hT <;> simp at hT
  · intro t k hkn H
    have := stAt_fr (S0 := S0) (sl := sl) (tr := tr) (m := 0) (t := t) k (fun j _ hj x hx hd => by
      have := (H j x hx hd).1 (by omega)
      rw [Array.getD_eq_getD_getElem?, Array.getElem?_replicate] at this
      split at this <;> simp at this)
    rw [Nat.zero_add] at this
    rw [this]; rfl
  · intro g k hkn H
    have := stAt_rows (S0 := S0) (sl := sl) (tr := tr) (m := 0) (g := g) k (fun j _ hj p hp hg => by
      have := (H j p hp hg).1 (by omega)
      rw [Array.getD_eq_getD_getElem?, Array.getElem?_replicate] at this
      split at this <;> simp at this)
    rw [Nat.zero_add] at this
    rw [this]; rfl

end
end Go.Vx

namespace Go.Vx
/-- all that comes behind a context -/
abbrev ctxFrom [CtxPred] (c1 : Cx) : CtxPred := ⟨fun c => Ext c1 c ∧ CtxPred.G c, fun hx hg => ⟨hg.1.trans hx, CtxPred.stable hx hg.2⟩⟩
/-- parameters, put into a frame -/
def putPs : List Nat → List V → List V → List V
  | p :: ps, v :: vs, fr => putPs ps vs (setN fr p v)
  | _, _, fr => fr
theorem putPs_rep {c : Cx} : ∀ (ps : List Nat) (vs : List V) (fr : List V) (args : List Value) (tmps : Array Value), RepL c args vs → fr.length ≤ tmps.size → (∀ i, Rep c (tmps.getD i undef) (nth fr i)) →
    (putPs ps vs fr).length = fr.length ∧ ((ps.zip args).foldl (fun t (p, v) => t.setIfInBounds p v) tmps).size = tmps.size ∧ ∀ i, Rep c (((ps.zip args).foldl (fun t (p, v) => t.setIfInBounds p v) tmps).getD i undef) (nth (putPs ps vs fr) i)
  | [], vs, fr, args, tmps, _, _, hf => ⟨by cases vs <;> rfl, rfl, fun i => by cases vs <;> exact hf i⟩
  | p :: ps, [], fr, args, tmps, hr, _, hf => by
    have : args = [] := List.eq_nil_of_length_eq_zero hr.1
    subst this
    exact ⟨rfl, rfl, hf⟩
  | p :: ps, v :: vs, fr, [], tmps, hr, _, hf => absurd hr.1 (by simp)
  | p :: ps, v :: vs, fr, x :: args, tmps, hr, hl, hf => by
    have h0 := hr.2 0 v x rfl rfl
    have hf' : ∀ i, Rep c ((tmps.setIfInBounds p x).getD i undef) (nth (setN fr p v) i) := fun i => by
      rw [nth_setN]
      split
      · rename_i h
        obtain ⟨rfl, h2⟩ := h
        rw [Array.getD_eq_getD_getElem?, Array.getElem?_setIfInBounds, if_pos rfl, if_pos (by omega)]
        exact h0
      · rename_i h
        by_cases hp : p = i
        · subst hp
          rw [nth_none fr p (by omega)]
          exact .any _
        · rw [Array.getD_eq_getD_getElem?, Array.getElem?_setIfInBounds, if_neg hp, ← Array.getD_eq_getD_getElem?]
          exact hf i
    obtain ⟨h1, h2, h3⟩ := putPs_rep ps vs (setN fr p v) args (tmps.setIfInBounds p x) ⟨by have := hr.1; simpa using this, fun j v x h1 h2 => hr.2 (j + 1) v x h1 h2⟩ (by rw [setN_length]; simpa using hl) hf'
    exact ⟨by rw [putPs, h1, setN_length], by rw [List.zip_cons_cons, List.foldl_cons, h2]; simp, fun i => by rw [List.zip_cons_cons, List.foldl_cons, putPs]; exact h3 i⟩
/-- a block that is nobody's -/
theorem nob_ok {c : Cx} (ok : Ok c) (o : Obj) : Ok ⟨c.ρ, c.I, c.rows, c.w.alloc o⟩ ∧ Ext c ⟨c.ρ, c.I, c.rows, c.w.alloc o⟩ := by
  have hw : (c.w.alloc o).heap = c.w.heap.push o := rfl
  have hx : Ext c ⟨c.ρ, c.I, c.rows, c.w.alloc o⟩ :=
    ⟨rfl, rfl, rfl, by simp [hw], fun b hb _ => push_old hw hb, fun _ h => h, fun _ h => .inl h, fun _ _ h => .inl h, fun h => by
      cases hr : c.rows[h]? with
      | none => unfold RowStep; rw [hr]; trivial
      | some r => exact RowStep.of_eq rfl rfl (fun b hb => push_old hw (ok.own _ _ hb).1)⟩
  refine ⟨⟨ok.inj, fun h b hb => ?_, fun h b sz es hb hr => ?_, ok.virt, fun b hb => ?_, .step ok hx fun h o hr => ⟨hr, rfl, fun b hb => push_old hw (ok.own h b hb).1⟩⟩, hx⟩
  · obtain ⟨h1, h2, r, h3, h4⟩ := ok.own h b hb
    exact ⟨by simp [hw]; omega, h2, r, h3, h4⟩
  · obtain ⟨arr, ty, fz, h1, h2, h3⟩ := ok.cont h b sz es hb hr
    exact ⟨arr, ty, fz, (push_old hw (ok.own _ _ hb).1).trans h1, h2, h3.mono hx ok⟩
  · have := ok.imm b hb
    simp [hw]; omega
/-- a row that is not there yet -/
theorem grow_ok {c : Cx} (ok : Ok c) : Ok ⟨c.ρ, c.I, c.rows ++ [.un], c.w⟩ ∧ Ext c ⟨c.ρ, c.I, c.rows ++ [.un], c.w⟩ := by
  have hold : ∀ (g : Nat) (r : RowS), c.rows[g]? = some r → (c.rows ++ [RowS.un])[g]? = some r := fun g r h => by
    rw [List.getElem?_append_left (List.getElem?_eq_some_iff.1 h).1]; exact h
  have hback : ∀ (g : Nat) (r : RowS), (c.rows ++ [RowS.un])[g]? = some r → r ≠ .un → c.rows[g]? = some r := fun g r h hn => by
    rw [List.getElem?_append] at h
    split at h
    · exact h
    · rename_i hg
      cases hk : g - c.rows.length with
      | zero => rw [hk] at h; simp at h; exact absurd h.symm hn
      | succ k => rw [hk] at h; simp at h
  have hx : Ext c ⟨c.ρ, c.I, c.rows ++ [.un], c.w⟩ := by
    refine ⟨rfl, rfl, rfl, Nat.le_refl _, fun _ _ _ => rfl, fun _ h => h, fun _ h => .inl h, fun _ _ h => .inl h, fun g => ?_⟩
    cases hg : c.rows[g]? with
    | none => unfold RowStep; rw [hg]; trivial
    | some r => exact RowStep.of_eq (by simp only [hold g r hg, hg]) rfl (fun _ _ => rfl)
  refine ⟨⟨ok.inj, fun g b hb => ?_, fun g b sz es hb hr => ?_, fun g sz es hn hr => ok.virt g sz es hn (hback g _ hr (by simp)), ok.imm, .step ok hx fun h o hr => ⟨hback h _ hr (by simp), rfl, fun _ _ => rfl⟩⟩, hx⟩
  · obtain ⟨h1, h2, r, h3, h4⟩ := ok.own g b hb
    exact ⟨h1, h2, r, hold g _ h3, h4⟩
  · obtain ⟨arr, ty, fz, h1, h2, h3⟩ := ok.cont g b sz es hb (hback g _ hr (by simp))
    exact ⟨arr, ty, fz, h1, h2, h3.mono hx ok⟩
/-- the loop's record, behind the rows -/
theorem rec_ok {c : Cx} (ok : Ok c) (L : Loop) :
    Ok ⟨fun h => if h = c.rows.length then some (c.w.heap.size + 1) else c.ρ h, c.I, c.rows ++ [.obj (.loop (c.w.heap.size + 1) L)], (c.w.alloc (.deferred (some []))).alloc (.loop L)⟩ ∧
    Ext c ⟨fun h => if h = c.rows.length then some (c.w.heap.size + 1) else c.ρ h, c.I, c.rows ++ [.obj (.loop (c.w.heap.size + 1) L)], (c.w.alloc (.deferred (some []))).alloc (.loop L)⟩ := by
  obtain ⟨ok1, hx1⟩ := nob_ok ok (.deferred (some []))
  have hgrow : Ok ⟨c.ρ, c.I, c.rows ++ [.un], c.w.alloc (.deferred (some []))⟩ ∧ Ext ⟨c.ρ, c.I, c.rows, c.w.alloc (.deferred (some []))⟩ ⟨c.ρ, c.I, c.rows ++ [.un], c.w.alloc (.deferred (some []))⟩ := grow_ok ok1
  obtain ⟨ok2, hx2⟩ := hgrow
  have hsz : (c.w.alloc (.deferred (some []))).heap.size = c.w.heap.size + 1 := World.size_alloc _ _
  obtain ⟨ok3, hx3⟩ := objnew_ok ok2 c.rows.length (.loop (c.w.heap.size + 1) L) (.loop L) (by simp) ((c.w.alloc (.deferred (some []))).alloc (.loop L)) rfl rfl rfl rfl ⟨by rw [hsz], World.alloc_heap_new _ _⟩
  simp only [hsz] at ok3 hx3
  have e : (c.rows ++ [RowS.un]).set c.rows.length (.obj (.loop (c.w.heap.size + 1) L)) = c.rows ++ [.obj (.loop (c.w.heap.size + 1) L)] := by simp
  rw [e] at ok3 hx3
  exact ⟨ok3, (hx1.trans hx2).trans hx3⟩
end Go.Vx
