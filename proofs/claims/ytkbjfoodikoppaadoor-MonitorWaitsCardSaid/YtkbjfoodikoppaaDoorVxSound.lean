import Derived.Test.YtkbjfoodikoppaaDoorVxOps
import Derived.Laws.CopyRow
import Derived.Laws.MakeOwn
import Derived.Laws.Strings
import Derived.Lib.Strings
import Derived.Laws.StructEq
import Derived.Laws.BytesArg
import Derived.Laws.NewFold
set_option linter.unusedSectionVars false
set_option linter.unusedSimpArgs false
set_option linter.unusedVariables false
namespace Go.Vx

theorem Ok.rho_none {c : Cx} (ok : Ok c) {h : Nat} (hn : c.rows[h]? = some .un) : c.ρ h = none := by
  cases hh : c.ρ h with
  | none => rfl
  | some b => obtain ⟨_, _, r, hr, hl⟩ := ok.own h b hh; rw [hn] at hr; injection hr with hr; subst hr; exact hl.elim

theorem RowStep.of_eq {c0 c : Cx} {h : Nat} (hr : c.rows[h]? = c0.rows[h]?) (hρ : c.ρ h = c0.ρ h)
    (hb : ∀ b, c0.ρ h = some b → c.w.heap[b]? = c0.w.heap[b]?) : RowStep c0 c h := by
  unfold RowStep
  split
  · trivial
  · rename_i hh; exact ⟨_, hr.trans hh⟩
  · rename_i hh; exact hr.trans hh
  · rename_i hh; exact .inr ⟨⟨_, hr.trans hh⟩, hρ⟩
  · rename_i hh; exact .inr ⟨_, hr.trans hh, .inr ⟨rfl, hρ, fun b arr ty fz h1 h2 => ⟨arr, fz, (hb b h1).trans h2, rfl⟩⟩⟩

theorem push_old {w w' : World} {o : Obj} (hw : w'.heap = w.heap.push o) {b : Nat} (hb : b < w.heap.size) : w'.heap[b]? = w.heap[b]? := by
  rw [hw, Array.getElem?_push, if_neg (by omega)]

theorem push_new {w w' : World} {o : Obj} (hw : w'.heap = w.heap.push o) : w'.heap[w.heap.size]? = some o := by
  rw [hw, Array.getElem?_push, if_pos rfl]

theorem obj_set {rows : Rows} {h hf sz : Nat} {es : List (List V)} {o : GO} (hr : (rows.set hf (.live sz es))[h]? = some (RowS.obj o)) : rows[h]? = some (RowS.obj o) := by
  rw [List.getElem?_set] at hr
  split at hr
  · split at hr <;> simp at hr
  · exact hr

/-- A handle gets a new block. -/
theorem alloc_ok {c : Cx} (ok : Ok c) (hf sz : Nat) (es : List (List V)) (arr : Array Value) (ty : TypeId) (fz : Nat × Nat)
    (hu : c.rows[hf]? = some .un ∨ ∃ es0, c.rows[hf]? = some (.live sz es0) ∧ es0.length < es.length)
    (hfz : ∀ i, i < arr.size → ¬ (fz.1 ≤ i ∧ i < fz.2)) (hc : Cont c sz es arr) (w' : World) (hw : w'.heap = c.w.heap.push (.cells arr ty fz))
    (hos : w'.os = c.w.os) (htape : w'.tape = c.w.tape) (hout : w'.output = c.w.output) :
    Ok ⟨fun h => if h = hf then some c.w.heap.size else c.ρ h, c.I, c.rows.set hf (.live sz es), w'⟩ ∧
    Ext c ⟨fun h => if h = hf then some c.w.heap.size else c.ρ h, c.I, c.rows.set hf (.live sz es), w'⟩ := by
  have hlt : hf < c.rows.length := by
    rcases hu with hu | ⟨es0, hu, _⟩ <;> exact (List.getElem?_eq_some_iff.1 hu).1
  have hx : Ext c ⟨fun h => if h = hf then some c.w.heap.size else c.ρ h, c.I, c.rows.set hf (.live sz es), w'⟩ := by
    refine ⟨hos, htape, hout, by simp [hw], fun b hb _ => push_old hw hb, fun _ h => h, fun _ h => .inl h, ?_, ?_⟩
    · intro h b hb
      dsimp only at hb
      split at hb
      · injection hb with hb; exact .inr (by omega)
      · exact .inl hb
    · intro h
      by_cases hh : h = hf
      · subst hh
        unfold RowStep
        rcases hu with hu | ⟨es0, hu, hl⟩
        · rw [hu]; exact ⟨_, by simp [hlt]; rfl⟩
        · rw [hu]; exact .inr ⟨es, by simp [hlt], .inl hl⟩
      · exact RowStep.of_eq (by simp [Ne.symm hh]) (by simp [hh]) (fun b hb => push_old hw (ok.own _ _ hb).1)
  have hne : ∀ (h : Nat) (o : GO), (c.rows.set hf (.live sz es))[h]? = some (RowS.obj o) → h ≠ hf := fun h o hr e => by
    subst e; simp [hlt] at hr
  refine ⟨⟨?_, ?_, ?_, ?_, ?_, .step ok hx fun h o hr => ⟨obj_set hr, by simp [hne h o hr], fun b hb => push_old hw (ok.own h b hb).1⟩⟩, hx⟩
  · intro h h' b h1 h2
    dsimp only at h1 h2
    split at h1 <;> split at h2
    · simp_all
    · injection h1 with h1; have := (ok.own _ _ h2).1; omega
    · injection h2 with h2; have := (ok.own _ _ h1).1; omega
    · exact ok.inj _ _ _ h1 h2
  · intro h b hb
    dsimp only at hb ⊢
    split at hb
    · rename_i hh; subst hh
      injection hb with hb; subst hb
      exact ⟨by simp [hw], fun hi => absurd (ok.imm _ hi) (by omega), .live sz es, by simp [hlt], trivial⟩
    · rename_i hh
      obtain ⟨h1, h2, r, h3, h4⟩ := ok.own _ _ hb
      exact ⟨by simp [hw]; omega, h2, r, by simp [Ne.symm hh, h3], h4⟩
  · intro h b sz' es' hb hr
    dsimp only at hb hr
    split at hb
    · rename_i hh; subst hh
      injection hb with hb; subst hb
      simp [hlt] at hr
      obtain ⟨rfl, rfl⟩ := hr
      exact ⟨arr, ty, fz, push_new hw, hfz, hc.mono hx ok⟩
    · rename_i hh
      simp [Ne.symm hh] at hr
      obtain ⟨arr', ty', fz', h1, h2, h3⟩ := ok.cont _ _ _ _ hb hr
      exact ⟨arr', ty', fz', (push_old hw (ok.own _ _ hb).1).trans h1, h2, h3.mono hx ok⟩
  · intro h sz' es' hb hr
    dsimp only at hb hr
    split at hb
    · cases hb
    · rename_i hh
      simp [Ne.symm hh] at hr
      exact ok.virt _ _ _ hb hr
  · intro b hb
    have := ok.imm b hb
    simp [hw]; omega

/-- A handle is live without a block: nothing is held. -/
theorem virt_ok {c : Cx} (ok : Ok c) (hf sz : Nat) (hu : c.rows[hf]? = some .un) :
    Ok ⟨c.ρ, c.I, c.rows.set hf (.live sz []), c.w⟩ ∧ Ext c ⟨c.ρ, c.I, c.rows.set hf (.live sz []), c.w⟩ := by
  have hlt : hf < c.rows.length := (List.getElem?_eq_some_iff.1 hu).1
  have hn : c.ρ hf = none := ok.rho_none hu
  have hx : Ext c ⟨c.ρ, c.I, c.rows.set hf (.live sz []), c.w⟩ := by
    refine ⟨rfl, rfl, rfl, Nat.le_refl _, fun _ _ _ => rfl, fun _ h => h, fun _ h => .inl h, fun _ _ h => .inl h, fun h => ?_⟩
    by_cases hh : h = hf
    · subst hh
      unfold RowStep
      rw [hu]; exact ⟨_, by simp [hlt]; rfl⟩
    · exact RowStep.of_eq (by simp [Ne.symm hh]) rfl (fun b hb => rfl)
  refine ⟨⟨ok.inj, ?_, ?_, ?_, ok.imm, .step ok hx fun h o hr => ⟨obj_set hr, rfl, fun _ _ => rfl⟩⟩, hx⟩
  · intro h b hb
    have hh : h ≠ hf := fun e => by subst e; rw [hn] at hb; cases hb
    obtain ⟨h1, h2, r, h3, h4⟩ := ok.own _ _ hb
    exact ⟨h1, h2, r, by simp [Ne.symm hh, h3], h4⟩
  · intro h b sz' es' hb hr
    have hh : h ≠ hf := fun e => by subst e; simp only at hb; rw [hn] at hb; cases hb
    simp [Ne.symm hh] at hr
    obtain ⟨arr', ty', fz', h1, h2, h3⟩ := ok.cont _ _ _ _ hb hr
    exact ⟨arr', ty', fz', h1, h2, h3.mono hx ok⟩
  · intro h sz' es' hb hr
    by_cases hh : h = hf
    · subst hh
      simp [hlt] at hr
      exact hr.2.symm ▸ rfl
    · simp [Ne.symm hh] at hr
      exact ok.virt _ _ _ hb hr

/-- A live row is written in its block. -/
theorem upd_ok {c : Cx} (ok : Ok c) (h b sz : Nat) (es es' : List (List V)) (arr arr' : Array Value) (ty : TypeId) (fz : Nat × Nat)
    (hrow : c.rows[h]? = some (.live sz es)) (hρ : c.ρ h = some b) (hb : c.w.heap[b]? = some (.cells arr ty fz))
    (hfz : ∀ i, i < arr.size → ¬ (fz.1 ≤ i ∧ i < fz.2)) (hsize : arr'.size = arr.size) (hlen : es.length ≤ es'.length) (hc : Cont c sz es' arr') :
    Ok ⟨c.ρ, c.I, c.rows.set h (.live sz es'), c.w.setRow b arr'⟩ ∧ Ext c ⟨c.ρ, c.I, c.rows.set h (.live sz es'), c.w.setRow b arr'⟩ := by
  have hlt : h < c.rows.length := (List.getElem?_eq_some_iff.1 hrow).1
  have hx : Ext c ⟨c.ρ, c.I, c.rows.set h (.live sz es'), c.w.setRow b arr'⟩ := by
    refine ⟨rfl, rfl, rfl, by simp, fun k _ hno => setRow_other _ _ _ _ (fun e => hno h (by rw [hρ, e])), fun _ h => h, fun _ h => .inl h, fun _ _ h => .inl h, fun k => ?_⟩
    by_cases hh : k = h
    · subst hh
      unfold RowStep
      rw [hrow]
      refine .inr ⟨es', by simp [hlt], ?_⟩
      rcases Nat.lt_or_eq_of_le hlen with hl | hl
      · exact .inl hl
      · refine .inr ⟨hl, rfl, fun b' arr1 ty1 fz1 hb' hc1 => ?_⟩
        rw [hρ] at hb'; injection hb' with hb'; subst hb'
        rw [hb] at hc1; injection hc1 with hc1; injection hc1 with e1 e2 e3; subst e1 e2 e3
        exact ⟨arr', fz, setRow_heap _ _ _ _ _ _ hb, hsize⟩
    · refine RowStep.of_eq (by simp [Ne.symm hh]) rfl (fun b' hb' => setRow_other _ _ _ _ (fun e => ?_))
      subst e; exact hh (ok.inj _ _ _ hb' hρ)
  have hne : ∀ (k : Nat) (o : GO), (c.rows.set h (.live sz es'))[k]? = some (RowS.obj o) → k ≠ h := fun k o hr e => by
    subst e; simp [hlt] at hr
  refine ⟨⟨ok.inj, ?_, ?_, ?_, fun b hb => by simpa using ok.imm b hb, .step ok hx fun k o hr => ⟨obj_set hr, rfl, fun b' hb' => setRow_other _ _ _ _ (fun e => hne k o hr (ok.inj _ _ _ (e ▸ hb') hρ))⟩⟩, hx⟩
  · intro k b' hb'
    obtain ⟨h1, h2, r, h3, h4⟩ := ok.own _ _ hb'
    by_cases hh : k = h
    · subst hh; exact ⟨by simpa using h1, h2, .live sz es', by simp [hlt], trivial⟩
    · exact ⟨by simpa using h1, h2, r, by simp [Ne.symm hh, h3], h4⟩
  · intro k b' sz' es1 hb' hr
    by_cases hh : k = h
    · subst hh
      simp [hlt] at hr
      obtain ⟨rfl, rfl⟩ := hr
      simp only at hb'
      rw [hρ] at hb'; injection hb' with hb'; subst hb'
      exact ⟨arr', ty, fz, setRow_heap _ _ _ _ _ _ hb, by rw [hsize]; exact hfz, hc.mono hx ok⟩
    · simp [Ne.symm hh] at hr
      obtain ⟨arr1, ty1, fz1, h1, h2, h3⟩ := ok.cont _ _ _ _ hb' hr
      refine ⟨arr1, ty1, fz1, ?_, h2, h3.mono hx ok⟩
      rw [setRow_other _ _ _ _ (fun e => ?_)]; exact h1
      subst e; exact hh (ok.inj _ _ _ hb' hρ)
  · intro k sz' es1 hb' hr
    by_cases hh : k = h
    · subst hh; simp only at hb'; rw [hρ] at hb'; cases hb'
    · simp [Ne.symm hh] at hr
      exact ok.virt _ _ _ hb' hr

end Go.Vx

namespace Go.Vx

/-- What an operation that yields a value comes to. -/
def Res (c : Cx) (r : Result Value) (K : V → List (Nat × RowS) → Prop) : Prop :=
  ∃ v ups u c', K v ups ∧ r = .ok u c'.w ∧ Ok c' ∧ Ext c c' ∧ c'.rows = setRows c.rows ups ∧ Rep c' u v

section
variable {P : Program} {c : Cx} {K : V → List (Nat × RowS) → Prop}

theorem Res.same (ok : Ok c) {v : V} {u : Value} {r : Result Value} (hk : K v []) (hr : r = .ok u c.w) (hrep : Rep c u v) : Res c r K :=
  ⟨v, [], u, c, hk, hr, ok, .refl c, rfl, hrep⟩

theorem rep_int {u : Value} {k : IntKind} {n : Int} (h : Rep c u (.d (.int k n))) : u = .int k n := by
  cases h with | d _ _ h => cases h; rfl
theorem rep_bool {u : Value} {b : Bool} (h : Rep c u (.d (.bool b))) : u = .bool b := by
  cases h with | d _ _ h => cases h; rfl
theorem rep_boolU {u : Value} (h : Rep c u (.d .boolU)) : ∃ b, u = .bool b := by
  cases h with | d _ _ h => cases h; exact ⟨_, rfl⟩
theorem rep_str {u : Value} {s : List UInt8} (h : Rep c u (.d (.str s))) : u = .string ⟨s.toArray⟩ := by
  cases h with | d _ _ h => cases h; rfl
theorem rep_nils {u : Value} (h : Rep c u (.d .nils)) : u = .slice none 0 0 := by
  cases h with | d _ _ h => cases h; rfl
theorem rep_nilp {u : Value} (h : Rep c u (.d .nilp)) : u = .pointer none := by
  cases h with | d _ _ h => cases h; rfl
theorem mk_int (k : IntKind) (n : Int) : Rep c (.int k n) (.d (.int k n)) := .d _ _ (.int k n)
theorem mk_bool (b : Bool) : Rep c (.bool b) (.d (.bool b)) := .d _ _ (.bool b)
theorem mk_str (s : List UInt8) : Rep c (.string ⟨s.toArray⟩) (.d (.str s)) := .d _ _ (.str s)

theorem fdiv_pow (a : Int) (n : Nat) : a.fdiv (2 ^ n) = a / 2 ^ n := by
  rw [Int.fdiv_eq_ediv_of_nonneg]
  exact Int.le_of_lt (Int.pow_pos (by decide))

theorem string_toList (s : List UInt8) : (⟨s.toArray⟩ : ByteArray).toList = s := by
  rw [ByteArray.toList_eq]

theorem beq_list {a b : List UInt8} : (a == b) = decide (a = b) := by
  by_cases h : a = b <;> simp [h]

theorem res_bin (ok : Ok c) {op : BinOp} {t : TypeId} {x y : Operand} {ux uy : Value} {vx vy : V} (hx : Rep c ux vx) (hy : Rep c uy vy)
    (h : binW op vx vy fun d => K (.d d) []) : Res c ((do eqGuard op t x y ux uy; binOp op t ux uy : Sem Value).run P c.w) K := by
  unfold binW at h
  split at h
  · rename_i k a k' b
    have ex := rep_int hx; have ey := rep_int hy
    subst ex ey
    split at h
    · obtain ⟨h0, hk⟩ := h
      refine Res.same ok hk ?_ (mk_int _ _)
      simp [eqGuard_at_int, binOp, Op.shift, Int.not_lt.2 h0]
    · obtain ⟨h0, hk⟩ := h
      refine Res.same ok hk ?_ (mk_int _ _)
      simp [eqGuard_at_int, binOp, Op.shift, Int.not_lt.2 h0, fdiv_pow]
    · obtain ⟨rfl, h⟩ := h
      unfold binI at h
      split at h
      · refine Res.same ok h ?_ (mk_int _ _); simp [eqGuard_at_int, binOp, Op.intArith]
      · refine Res.same ok h ?_ (mk_int _ _); simp [eqGuard_at_int, binOp, Op.intArith]
      · refine Res.same ok h ?_ (mk_int _ _); simp [eqGuard_at_int, binOp, Op.intArith]
      · refine Res.same ok h.2 ?_ (mk_int _ _); simp [eqGuard_at_int, binOp, Op.intDiv, h.1]
      · refine Res.same ok h.2 ?_ (mk_int _ _); simp [eqGuard_at_int, binOp, Op.intDiv, h.1]
      · refine Res.same ok h ?_ (mk_int _ _); simp only [eqGuard_at_int, pure_bind, binOp_and]; rfl
      · refine Res.same ok h ?_ (mk_int _ _); simp only [eqGuard_at_int, pure_bind, binOp_or]; rfl
      · refine Res.same ok h ?_ (mk_int _ _); simp only [eqGuard_at_int, pure_bind, binOp_xor]; rfl
      · refine Res.same ok h ?_ (mk_int _ _); simp only [eqGuard_at_int, pure_bind, binOp_andNot]; rfl
      · refine Res.same ok h ?_ (mk_bool _); simp only [eqGuard_at_int, binOp, Op.intCmp]; by_cases hh : a = b <;> simp [hh]
      · refine Res.same ok h ?_ (mk_bool _); simp only [eqGuard_at_int, binOp, Op.intCmp]; by_cases hh : a = b <;> simp [hh]
      · refine Res.same ok h ?_ (mk_bool _); simp [eqGuard_at_int, binOp, Op.intCmp]
      · refine Res.same ok h ?_ (mk_bool _); simp [eqGuard_at_int, binOp, Op.intCmp]
      · refine Res.same ok h ?_ (mk_bool _); simp [eqGuard_at_int, binOp, Op.intCmp]
      · refine Res.same ok h ?_ (mk_bool _); simp [eqGuard_at_int, binOp, Op.intCmp]
      · exact h.elim
  · rename_i a b
    have ex := rep_str hx; have ey := rep_str hy
    subst ex ey
    unfold binS at h
    split at h <;> try contradiction
    · obtain ⟨h0, hk⟩ := h
      refine Res.same ok hk (u := .string ⟨(a ++ b).toArray⟩) ?_ (mk_str _)
      have h1 : ¬ (9223372036854775807 < ((a.length + b.length : Nat) : Int)) := by omega
      simp only [eqGuard_at_string, binOp, Op.stringOp, pure_bind]
      rw [if_neg (by simpa [ByteArray.size] using h1)]
      simp only [Sem.run_pure]
      congr 2
    all_goals
      refine Res.same ok h ?_ (mk_bool _)
      simp only [eqGuard_at_string, binOp, Op.stringOp, string_toList, beq_list]
      simp
  · exact h.elim

def SzOf (P : Program) (t : TypeId) (sz : Nat) : Prop := ∃ i, P.info? t = some i ∧ i.size = sz
def AggT (P : Program) (t : TypeId) (b : Bool) : Prop := ∃ d, P.underlying t = some d ∧ (match d with | .struct _ | .array _ _ => true | _ => false) = b

theorem run_sizeOf' {t : TypeId} {sz : Nat} (h : SzOf P t sz) (w : World) : (sizeOf t).run P w = .ok sz w := by
  obtain ⟨i, h, rfl⟩ := h
  simp [sizeOf, typeInfo, h]

theorem run_isAgg' {t : TypeId} {b : Bool} (h : AggT P t b) (w : World) : (isAgg t).run P w = .ok b w := by
  obtain ⟨d, h, rfl⟩ := h
  cases d <;> simp [isAgg, run_underlying h]

theorem add_off (b o n : Nat) : (⟨b, o, none⟩ : Addr).add n = ⟨b, o + n, none⟩ := by
  unfold Addr.add; split <;> simp_all

theorem sub_lt {sz sz' off i n m : Nat} (h : i < n) (hn : n * sz ≤ m) (ho : off + sz' ≤ sz) : i * sz + off + sz' ≤ m := by
  have : (i + 1) * sz ≤ n * sz := Nat.mul_le_mul_right _ h
  rw [Nat.succ_mul] at this
  omega

/-- What Rep says of a handle that is live. -/
theorem rep_optr {u : Value} {sz h n i off : Nat} (hr : Rep c u (.optr sz h n i off)) (hl : LiveN c.rows h sz n) :
    ∃ b, c.ρ h = some b ∧ u = .pointer (some ⟨b, i * sz + off, none⟩) := by
  obtain ⟨es, hl, hn⟩ := hl
  cases hr with
  | optr _ _ _ _ _ b es' hrow hn' hρ => exact ⟨b, hρ, rfl⟩
  | optrStale _ _ _ _ _ _ _ hs =>
    rcases hs with hs | ⟨sz', es', hs, hlt⟩
    · rw [hs] at hl; cases hl
    · rw [hs] at hl; injection hl with hl; injection hl with e1 e2; subst e2; omega
  | oh _ _ _ b o hrow => rw [hrow] at hl; cases hl

theorem rep_osl {u : Value} {sz h n off len : Nat} (hr : Rep c u (.osl sz h n off len)) (hl : LiveN c.rows h sz n) :
    (u = .slice none 0 0 ∧ n = 0 ∧ off = 0 ∧ len = 0 ∧ c.ρ h = none) ∨
    ∃ cap b o arr ty fz, u = .slice (some ⟨b, o, none⟩) len cap ∧ c.ρ h = some b ∧ c.w.heap[b]? = some (.cells arr ty fz) ∧ (o = off * sz ∨ cap = 0) ∧ (off + cap) * sz ≤ arr.size ∧ len ≤ cap ∧ off + len ≤ n := by
  obtain ⟨es, hl, hn⟩ := hl
  cases hr with
  | osl _ _ _ _ _ cap b o es' arr ty fz hrow hn' hρ hb ho hcap hlc hlen => exact .inr ⟨cap, b, o, arr, ty, fz, rfl, hρ, hb, ho, hcap, hlc, hlen⟩
  | oslVirt _ _ hrow hρ => exact .inl ⟨rfl, rfl, rfl, rfl, hρ⟩
  | oslStale _ _ _ _ _ _ _ hs =>
    rcases hs with hs | ⟨sz', es', hs, hlt⟩
    · rw [hs] at hl; cases hl
    · rw [hs] at hl; injection hl with hl; injection hl with e1 e2; subst e2; omega

/-- The cells of a live row as they lie in memory. -/
theorem row_cells (ok : Ok c) {h b sz : Nat} {es : List (List V)} (hrow : c.rows[h]? = some (.live sz es)) (hρ : c.ρ h = some b) :
    ∃ arr ty fz, c.w.heap[b]? = some (.cells arr ty fz) ∧ (∀ i, i < arr.size → ¬ (fz.1 ≤ i ∧ i < fz.2)) ∧ Cont c sz es arr := ok.cont h b sz es hρ hrow

theorem cell_of {w : World} {b o : Nat} {arr : Array Value} {ty : TypeId} {fz : Nat × Nat} (h : w.heap[b]? = some (.cells arr ty fz)) : w.cell? ⟨b, o, none⟩ = arr[o]? := by
  simp [World.cell?, h]

/-- A part of an element, read. -/
theorem cont_at {arr : Array Value} {sz : Nat} {es : List (List V)} (hc : Cont c sz es arr) {i : Nat} {e : List V} (he : es[i]? = some e) {j : Nat} (hj : j < sz) :
    ∃ x v, arr[i * sz + j]? = some x ∧ e[j]? = some v ∧ Rep c x v := by
  have hlen := (hc.1 e (List.mem_of_getElem? he)).1
  have hv : e[j]? = some (e[j]'(by omega)) := List.getElem?_eq_getElem (by omega)
  obtain ⟨x, h1, h2⟩ := hc.2.2 i e j _ he hv
  exact ⟨x, _, h1, hv, h2⟩

/-- A list of cells that represents a list of values. -/
def RepL (c : Cx) (us : List Value) (vs : List V) : Prop := us.length = vs.length ∧ ∀ (j : Nat) (v : V) (x : Value), vs[j]? = some v → us[j]? = some x → Rep c x v

theorem run_loadRow {w : World} (b o n : Nat) (f : Nat → Value) (h : ∀ j, j < n → w.cell? ⟨b, o + j, none⟩ = some (f j)) :
    (loadCells ⟨b, o, none⟩ n).run P w = .ok ((List.range n).map f).toArray w :=
  run_loadCells (P := P) w ⟨b, o, none⟩ n f (fun j hj => by rw [add_off]; exact h j hj)

/-- A result that leaves the world as it is. -/
def Res1 (c : Cx) (r : Result Value) (K : V → List (Nat × RowS) → Prop) : Prop := ∃ v u, K v [] ∧ r = .ok u c.w ∧ Rep c u v

theorem Res1.same {v : V} {u : Value} {r : Result Value} (hk : K v []) (hr : r = .ok u c.w) (hrep : Rep c u v) : Res1 c r K := ⟨v, u, hk, hr, hrep⟩

theorem res_load1 (ok : Ok c) {t : TypeId} {agg : Bool} {sz : Nat} {x : Opd} {ev : Opd → V} {hf : Nat} {u : Value} (hs : SzOf P t sz) (ha : AggT P t agg)
    (hr : Rep c u (ev x)) (h : opW (.load agg sz x) ev c.rows hf K) : Res1 c ((Instr.loadAt t u).run P c.w) K := by
  simp only [opW] at h
  split at h
  · rename_i cs hx
    rw [hx] at hr
    cases hr with | d _ _ hr =>
    cases hr with | ptr _ b off uu hI hcell hrep =>
    cases agg with
    | true =>
      obtain ⟨hle, hk⟩ := h
      have hl := run_loadRow (P := P) (w := c.w) b off sz uu (fun j hj => hcell j (cs[j]'(by omega)) (List.getElem?_eq_getElem (by omega)))
      refine Res1.same hk (u := .agg ((List.range sz).map uu).toArray) ?_ ?_
      · simp [Instr.loadAt, Instr.sureAddr, loadVar, run_isAgg' ha, run_sizeOf' hs, hl]
      · refine .agg _ _ (by simp; omega) (fun j v x h1 h2 => ?_)
        simp only [List.getElem?_map, List.getElem?_take] at h1
        split at h1
        · rename_i hj
          obtain ⟨d, hd, rfl⟩ := Option.map_eq_some_iff.1 h1
          simp [hj] at h2
          subst h2
          exact .d _ _ (hrep j d hd)
        · cases h1
    | false =>
      obtain ⟨hpos, hk⟩ := h
      have h0 : cs[0]? = some (cs[0]'hpos) := List.getElem?_eq_getElem hpos
      refine Res1.same (hk _ h0) (u := uu 0) ?_ (.d _ _ (hrep 0 _ h0))
      have := hcell 0 _ h0
      simp only [Nat.add_zero] at this
      simp [Instr.loadAt, Instr.sureAddr, loadVar, run_isAgg' ha, this]
  · rename_i s hh n i off hx
    rw [hx] at hr
    obtain ⟨hlive, hi, hoff, hk⟩ := h
    obtain ⟨b, hρ, rfl⟩ := rep_optr hr hlive
    obtain ⟨es, hrow, rfl⟩ := hlive
    have he : es[i]? = some (es[i]'hi) := List.getElem?_eq_getElem hi
    obtain ⟨arr, ty, fz, hb, hfz, hc⟩ := row_cells ok hrow hρ
    have hk2 := hk es _ hrow he
    clear hk
    have hel := (hc.1 _ (List.mem_of_getElem? he)).1
    have hcell : ∀ j, j < sz → ∃ x v, arr[i * s + (off + j)]? = some x ∧ (es[i]'hi)[off + j]? = some v ∧ Rep c x v := fun j hj => cont_at hc he (by omega)
    cases agg with
    | true =>
      have hl := run_loadRow (P := P) (w := c.w) b (i * s + off) sz (fun j => arr.getD (i * s + (off + j)) undef) (fun j hj => by
        obtain ⟨x, v, h1, h2, h3⟩ := hcell j hj
        rw [cell_of hb, Nat.add_assoc, h1]
        simp [Array.getD_eq_getD_getElem?, h1])
      refine Res1.same hk2 (u := .agg ((List.range sz).map fun j => arr.getD (i * s + (off + j)) undef).toArray) ?_ ?_
      · simp [Instr.loadAt, Instr.sureAddr, loadVar, run_isAgg' ha, run_sizeOf' hs, hl]
      · refine .agg _ _ (by simp; omega) (fun j v x h1 h2 => ?_)
        have hj : j < sz := by
          have := (List.getElem?_eq_some_iff.1 h1).1
          simp at this; omega
        obtain ⟨x', v', e1, e2, e3⟩ := hcell j hj
        simp [hj] at h1
        rw [e2] at h1; injection h1 with h1; subst h1
        simp [hj, Array.getD_eq_getD_getElem?, e1] at h2
        subst h2
        exact e3
    | false =>
      obtain ⟨rfl, -, hk3⟩ := hk2
      obtain ⟨x', v', e1, e2, e3⟩ := hcell 0 (by omega)
      simp only [Nat.add_zero] at e1 e2
      refine Res1.same (hk3 _ e2) (u := x') ?_ e3
      have : c.w.cell? ⟨b, i * s + off, none⟩ = some x' := by rw [cell_of hb, e1]
      simp [Instr.loadAt, Instr.sureAddr, loadVar, run_isAgg' ha, this]
  · exact h.elim

theorem res_load (ok : Ok c) {t : TypeId} {agg : Bool} {sz : Nat} {x : Opd} {ev : Opd → V} {hf : Nat} {u : Value} (hs : SzOf P t sz) (ha : AggT P t agg)
    (hr : Rep c u (ev x)) (h : opW (.load agg sz x) ev c.rows hf K) : Res c ((Instr.loadAt t u).run P c.w) K := by
  obtain ⟨v, u, hk, he, hr⟩ := res_load1 ok hs ha hr h
  exact Res.same ok hk he hr

end
end Go.Vx

namespace Go.Vx
section
variable {P : Program} {c : Cx} {K : V → List (Nat × RowS) → Prop} {rows : Rows}

/-- The cells of a value, as cellsW tells them. -/
theorem cells_of {u : Value} {v : V} {sz : Nat} {K' : List V → Prop} (hr : Rep c u v) (h : cellsW v sz K') :
    ∃ cs, cs.length = sz ∧ (∀ x ∈ cs, oneV x = true) ∧ RepL c u.cells.toList cs ∧ K' cs := by
  unfold cellsW at h
  split at h
  · rename_i cs
    cases hr with | agg vs _ hlen hrep =>
    exact ⟨cs, h.1, h.2.1, ⟨by simpa [Value.cells] using hlen, fun j v x h1 h2 => hrep j v x h1 (by simpa [Value.cells] using h2)⟩, h.2.2⟩
  · exact h.elim
  · exact h.elim
  all_goals
    obtain ⟨rfl, hk⟩ := h
    have hone := hr.one rfl
    refine ⟨_, rfl, by simp [oneV], ?_, hk⟩
    have hc : u.cells = #[u] := by cases u <;> first | rfl | (simp [Value.oneCell'] at hone)
    rw [hc]
    refine ⟨rfl, fun j v x h1 h2 => ?_⟩
    cases j with
    | zero => simp at h1 h2; subst h1 h2; exact hr
    | succ j => simp at h1

theorem RepL.get {us : List Value} {vs : List V} (h : RepL c us vs) {j : Nat} {v : V} (hj : vs[j]? = some v) : ∃ x, us[j]? = some x ∧ Rep c x v := by
  have hlt := (List.getElem?_eq_some_iff.1 hj).1
  have : us[j]? = some (us[j]'(by rw [h.1]; exact hlt)) := List.getElem?_eq_getElem _
  exact ⟨_, this, h.2 j v _ hj this⟩

theorem RepL.mono {c0 : Cx} (hx : Ext c0 c) (ok : Ok c0) {us : List Value} {vs : List V} (h : RepL c0 us vs) : RepL c us vs :=
  ⟨h.1, fun j v x h1 h2 => (h.2 j v x h1 h2).mono hx ok⟩

theorem cont_one {us : List Value} {cs : List V} (hl : RepL c us cs) (ho : ∀ x ∈ cs, oneV x = true) : Cont c cs.length [cs] us.toArray := by
  refine ⟨fun e he => ?_, by simp [hl.1], fun i e j v h1 h2 => ?_⟩
  · simp at he; subst he; exact ⟨rfl, ho⟩
  · cases i with
    | zero =>
      simp at h1; subst h1
      obtain ⟨x, hx, hr⟩ := hl.get h2
      exact ⟨x, by simpa using hx, hr⟩
    | succ i => simp at h1

theorem res_box (ok : Ok c) {t : TypeId} {sz : Nat} {x : Opd} {ev : Opd → V} {hf : Nat} {u : Value} (hu : c.rows[hf]? = some .un)
    (hr : Rep c u (ev x)) (h : opW (.box sz x) ev c.rows hf K) : Res c ((Instr.box t u).run P c.w) K := by
  simp only [opW] at h
  obtain ⟨cs, rfl, ho, hl, hk⟩ := cells_of hr h
  have hal := alloc_ok ok hf cs.length [cs] u.cells t (0, 0) (.inl hu) (fun i _ => by omega) (by simpa using cont_one hl ho) (c.w.alloc (.cells u.cells t)) rfl rfl rfl rfl
  refine ⟨_, _, .pointer (some ⟨c.w.heap.size, 0, none⟩), _, hk, ?_, hal.1, hal.2, rfl, ?_⟩
  · simp [Instr.box, newVar, newRow]
  · have hlt := (List.getElem?_eq_some_iff.1 hu).1
    have := Rep.optr (c := ⟨fun h => if h = hf then some c.w.heap.size else c.ρ h, c.I, c.rows.set hf (.live cs.length [cs]), c.w.alloc (.cells u.cells t)⟩) cs.length hf 1 0 0 c.w.heap.size [cs] (by simp [hlt]) rfl (by simp)
    simpa using this

theorem repL_zero {us : List Value} {zero : List D} (hz : us.length = zero.length) (hrep : ∀ (j : Nat) (v : D) (x : Value), zero[j]? = some v → us[j]? = some x → RepD (fun _ => False) default x v) :
    RepL c us (zero.map .d) := by
  refine ⟨by simpa using hz, fun j v x h1 h2 => ?_⟩
  simp only [List.getElem?_map] at h1
  obtain ⟨d, hd, rfl⟩ := Option.map_eq_some_iff.1 h1
  exact .d _ _ ((hrep j d x hd h2).mono (fun _ h => h.elim) (fun _ h => h.elim))

/-- The zero value of a type: its cells as data. -/
def ZeroOf (P : Program) (t : TypeId) (zero : List D) : Prop := ∃ i z, P.info? t = some i ∧ i.zero = some z ∧ i.size = zero.length ∧ z.cells.size = zero.length ∧
  ∀ (j : Nat) (v : D) (x : Value), zero[j]? = some v → z.cells[j]? = some x → RepD (fun _ => False) default x v

theorem map_d_one (zero : List D) : ∀ x ∈ zero.map V.d, oneV x = true := by
  intro x hx
  obtain ⟨d, _, rfl⟩ := List.mem_map.1 hx
  rfl

theorem res_alloc (ok : Ok c) {t : TypeId} {zero : List D} {ev : Opd → V} {hf : Nat} (hu : c.rows[hf]? = some .un) (hz : ZeroOf P t zero)
    (h : opW (.alloc zero) ev c.rows hf K) : Res c ((Instr.alloc t true (.tuple #[])).run P c.w) K := by
  simp only [opW] at h
  obtain ⟨i, z, hi, hz1, hsz, hcs, hrep⟩ := hz
  have hl : RepL c z.cells.toList (zero.map .d) := repL_zero (by simpa using hcs) (fun j v x h1 h2 => hrep j v x h1 (by simpa using h2))
  have hco := cont_one hl (map_d_one zero)
  simp only [List.length_map] at hco
  have hal := alloc_ok ok hf zero.length [zero.map .d] z.cells t (0, 0) (.inl hu) (fun i _ => by omega) (by simpa using hco) (c.w.alloc (.cells z.cells t)) rfl rfl rfl rfl
  refine ⟨_, _, .pointer (some ⟨c.w.heap.size, 0, none⟩), _, h, ?_, hal.1, hal.2, rfl, ?_⟩
  · simp [Instr.alloc, zeroValue, typeInfo, hi, hz1, newVar, newRow]
  · have hlt := (List.getElem?_eq_some_iff.1 hu).1
    have := Rep.optr (c := ⟨fun h => if h = hf then some c.w.heap.size else c.ρ h, c.I, c.rows.set hf (.live zero.length [zero.map .d]), c.w.alloc (.cells z.cells t)⟩) zero.length hf 1 0 0 c.w.heap.size [zero.map .d] (by simp [hlt]) rfl (by simp)
    simpa using this

/-- storeCells into a row, whatever its marks beyond the end. -/
theorem run_storeCells_fz (g o : Nat) (t : TypeId) (fz : Nat × Nat) : ∀ (vs : List Value) (i : Nat) (cur : Array Value) (w : World), w.heap[g]? = some (.cells cur t fz) →
    (∀ k, k < cur.size → ¬ (fz.1 ≤ k ∧ k < fz.2)) → o + i + vs.length ≤ cur.size → (∀ v ∈ vs, v.oneCell' = true) →
    (storeCells ⟨g, o, none⟩ vs i).run P w = .ok () (w.setRow g (cur.toList.take (o + i) ++ vs ++ cur.toList.drop (o + i + vs.length)).toArray)
  | [], i, cur, w, hg, _, _, _ => by
    simp only [storeCells, List.append_nil, List.length_nil, Nat.add_zero, List.take_append_drop, Array.toArray_toList]
    rw [setRow_self w g cur t fz hg]
    rfl
  | v :: rest, i, cur, w, hg, hfz, hl, h1 => by
    have hi : o + i < cur.size := by simp at hl; omega
    have hadd : (⟨g, o, none⟩ : Addr).add i = ⟨g, o + i, none⟩ := add_off _ _ _
    have hcell : w.cell? ⟨g, o + i, none⟩ = some cur[o + i] := by simp [World.cell?, hg, hi]
    have hfro : w.frozen? ⟨g, o + i, none⟩ = false := by
      have := hfz _ hi
      simp [World.frozen?, hg]
      omega
    have hst : (store ((⟨g, o, none⟩ : Addr).add i) v).run P w = .ok () (w.setRow g (cur.setIfInBounds (o + i) v)) := by
      rw [hadd, run_store P w _ v _ (h1 v (by simp)), hcell]
      simp [hfro, setCell_eq_setRow w g (o + i) cur t fz v hg]
    have ih := run_storeCells_fz g o t fz rest (i + 1) (cur.setIfInBounds (o + i) v) (w.setRow g (cur.setIfInBounds (o + i) v)) (setRow_heap w g cur _ t _ hg) (by simpa using hfz) (by simp at hl ⊢; omega) (fun x hx => h1 x (by simp [hx]))
    simp only [storeCells, Sem.run_bind, hst, Result.andThen_ok, ih, setRow_setRow]
    congr 3
    apply List.ext_getElem?
    intro k
    simp only [Array.toList_setIfInBounds, List.getElem?_append, List.getElem?_take, List.getElem?_drop, List.length_append, List.length_take, List.length_set, List.length_cons, Array.length_toList, List.getElem?_cons, List.getElem?_set]
    grind

end
end Go.Vx

namespace Go.Vx
section
variable {P : Program} {c : Cx} {K : V → List (Nat × RowS) → Prop}

theorem splice_get {α : Type} (l us : List α) (p m : Nat) (h : p + us.length ≤ l.length) :
    (l.take p ++ us ++ l.drop (p + us.length))[m]? = if m < p then l[m]? else if m < p + us.length then us[m - p]? else l[m]? := by
  simp only [List.getElem?_append, List.getElem?_take, List.getElem?_drop, List.length_append, List.length_take]
  grind

theorem splice_len {α : Type} (l us : List α) (p : Nat) (h : p + us.length ≤ l.length) : (l.take p ++ us ++ l.drop (p + us.length)).length = l.length := by
  simp; omega

theorem mul_lt_of {i i' sz j : Nat} (h : i' < i) (hj : j < sz) : i' * sz + j < i * sz := by
  have : (i' + 1) * sz ≤ i * sz := Nat.mul_le_mul_right _ h
  rw [Nat.succ_mul] at this
  omega

theorem cont_set {sz : Nat} {es : List (List V)} {arr : Array Value} (hc : Cont c sz es arr) {i : Nat} {e : List V} (he : es[i]? = some e)
    {off : Nat} {us : List Value} {cs : List V} (hoff : off + cs.length ≤ sz) (hl : RepL c us cs) (ho : ∀ x ∈ cs, oneV x = true) :
    Cont c sz (es.set i (setR e off cs)) (arr.toList.take (i * sz + off) ++ us ++ arr.toList.drop (i * sz + off + us.length)).toArray := by
  have hi := (List.getElem?_eq_some_iff.1 he).1
  obtain ⟨hel, heo⟩ := hc.1 e (List.mem_of_getElem? he)
  have hfit : i * sz + off + us.length ≤ arr.toList.length := by
    have := mul_lt_of (sz := sz + 0) (Nat.lt_of_lt_of_le hi (Nat.le_refl _)) (j := 0)
    have h2 : (i + 1) * sz ≤ es.length * sz := Nat.mul_le_mul_right _ hi
    have h3 := hc.2.1
    rw [Nat.succ_mul] at h2
    rw [hl.1]
    simp
    omega
  have hlen : (setR e off cs).length = sz := by
    have := splice_len e cs off (by omega)
    simp only [setR]; omega
  have hal : (arr.toList.take (i * sz + off) ++ us ++ arr.toList.drop (i * sz + off + us.length)).toArray.size = arr.size := by
    have := splice_len _ _ _ hfit
    simpa only [List.size_toArray, Array.length_toList] using this
  refine ⟨fun e' he' => ?_, by rw [hal, List.length_set]; exact hc.2.1, fun i' e' j v h1 h2 => ?_⟩
  · rcases List.mem_or_eq_of_mem_set he' with h | h
    · exact hc.1 e' h
    · subst h
      refine ⟨hlen, fun v hv => ?_⟩
      simp only [setR, List.mem_append] at hv
      rcases hv with (hv | hv) | hv
      · exact heo v (List.mem_of_mem_take hv)
      · exact ho v hv
      · exact heo v (List.mem_of_mem_drop hv)
  · simp only [List.getElem?_toArray]
    rw [splice_get _ _ _ _ hfit, hl.1]
    have hj : j < sz := by
      have hlt := (List.getElem?_eq_some_iff.1 h2).1
      rw [List.getElem?_set] at h1
      split at h1
      · injection h1 with h1; subst h1; omega
      · have := (hc.1 _ (List.mem_of_getElem? h1)).1; omega
    by_cases hii : i = i'
    · subst hii
      simp [hi] at h1
      subst h1
      simp only [setR] at h2
      rw [splice_get e cs off j (by omega)] at h2
      by_cases h3 : j < off
      · rw [if_pos h3] at h2
        rw [if_pos (by omega)]
        simpa using hc.2.2 i e j v he h2
      · rw [if_neg h3] at h2
        rw [if_neg (by omega)]
        by_cases h4 : j < off + cs.length
        · rw [if_pos h4] at h2
          rw [if_pos (by omega), show i * sz + j - (i * sz + off) = j - off by omega]
          exact hl.get h2
        · rw [if_neg h4] at h2
          rw [if_neg (by omega)]
          simpa using hc.2.2 i e j v he h2
    · rw [List.getElem?_set_ne hii] at h1
      have := hc.2.2 i' e' j v h1 h2
      rcases Nat.lt_or_gt_of_ne hii with hlt | hlt
      · have h5 := mul_lt_of (sz := sz) (j := sz - 1) hlt (by omega)
        rw [if_neg (by omega), if_neg (by omega)]
        simpa using this
      · have h5 := mul_lt_of (sz := sz) (j := j) hlt hj
        rw [if_pos (by omega)]
        simpa using this

theorem res_store (ok : Ok c) {t : TypeId} {sz : Nat} {x a : Opd} {ev : Opd → V} {hf : Nat} {ua ux : Value} (hs : SzOf P t sz)
    (hra : Rep c ua (ev a)) (hrx : Rep c ux (ev x)) (h : opW (.store sz a x) ev c.rows hf K) :
    ∃ v ups c', K v ups ∧ (Instr.storeAt t ua ux).run P c.w = .ok () c'.w ∧ Ok c' ∧ Ext c c' ∧ c'.rows = setRows c.rows ups ∧ v = .any := by
  simp only [opW] at h
  split at h
  · rename_i s hh n i off hx
    rw [hx] at hra
    obtain ⟨hlive, hi, hoff, h⟩ := h
    obtain ⟨b, hρ, rfl⟩ := rep_optr hra hlive
    obtain ⟨cs, hcl, ho, hl, hk⟩ := cells_of hrx h
    obtain ⟨es, hrow, rfl⟩ := hlive
    have he : es[i]? = some (es[i]'hi) := List.getElem?_eq_getElem hi
    obtain ⟨arr, ty, fz, hb, hfz, hc⟩ := row_cells ok hrow hρ
    have hfit : i * s + off + ux.cells.toList.length ≤ arr.size := by
      have h2 : (i + 1) * s ≤ es.length * s := Nat.mul_le_mul_right _ hi
      have h3 := hc.2.1
      rw [Nat.succ_mul] at h2
      rw [hl.1]
      omega
    have hco := cont_set hc he (off := off) (by omega) hl ho
    have hup := upd_ok ok hh b s es (es.set i (setR (es[i]'hi) off cs)) arr _ ty fz hrow hρ hb hfz (by simp; simp at hfit; omega) (by simp) hco
    refine ⟨_, _, _, hk es _ hrow he, ?_, hup.1, hup.2, rfl, rfl⟩
    have hone : ∀ v ∈ ux.cells.toList, v.oneCell' = true := fun v hv => by
      obtain ⟨j, hj, rfl⟩ := List.getElem_of_mem hv
      have hj' : j < cs.length := by rw [← hl.1]; exact hj
      exact (hl.2 j _ _ (List.getElem?_eq_getElem hj') (List.getElem?_eq_getElem hj)).one (ho _ (List.getElem_mem hj'))
    have hst := run_storeCells_fz (P := P) b (i * s + off) ty fz ux.cells.toList 0 arr c.w hb hfz (by simpa using hfit) hone
    simp only [Nat.add_zero] at hst
    have hsz : ux.cells.size = sz := by have := hl.1; simp at this; omega
    simp [Instr.storeAt, Instr.sureAddr, storeVar, run_sizeOf' hs, hsz, hst]
  · exact h.elim

end
end Go.Vx

namespace Go.Vx
section
variable {P : Program} {c : Cx} {K : V → List (Nat × RowS) → Prop}

theorem equalIn_bool {t : TypeId} (ht : P.underlying t = some .bool) (a b : Bool) (w : World) (n : Nat) : (Op.equalIn (n + 1) t (.bool a) (.bool b)).run P w = .ok (a == b) w := by
  simp [Op.equalIn, run_underlying ht]

theorem res_eqB (ok : Ok c) {op : BinOp} {neg : Bool} {t : TypeId} {x y : Operand} {ax ay : Opd} {ev : Opd → V} {hf : Nat} {ux uy : Value} (ht : P.underlying t = some .bool)
    (hop : op = (if neg then .neq else .eql)) (hx : Rep c ux (ev ax)) (hy : Rep c uy (ev ay)) (h : opW (.eqB neg ax ay) ev c.rows hf K) :
    Res c ((do eqGuard op t x y ux uy; binOp op t ux uy : Sem Value).run P c.w) K := by
  simp only [opW] at h
  split at h
  · rename_i a b e1 e2
    rw [e1] at hx; rw [e2] at hy
    have ex := rep_bool hx; have ey := rep_bool hy
    subst ex ey
    refine Res.same ok h ?_ (mk_bool _)
    have he : (Op.equal t (.bool a) (.bool b)).run P c.w = .ok (a == b) c.w := equalIn_bool ht a b c.w 9999
    cases neg
    · simp only [Bool.false_eq_true, if_false] at hop ⊢
      subst hop
      simp [eqGuard_at_bool, binOp, he]
    · simp only [if_true] at hop ⊢
      subst hop
      simp [eqGuard_at_bool, binOp, he, bne]
  · exact h.elim

/-- The kinds of plain fields that lie one behind the other. -/
def flatK (P : Program) : Nat → List Field → Option (List Nat)
  | _, [] => some []
  | i, f :: fs =>
    if f.offset = i ∧ f.name ≠ "_" then
      (match P.underlying f.type with | some (.int _) => some 0 | some .bool => some 1 | some .string => some 2 | _ => none).bind fun k => (flatK P (i + 1) fs).map (k :: ·)
    else none

theorem eqFields_flat {w : World} (hw : c.w = w) {xs ys : Array Value} {d : Nat} : ∀ (fs : List Field) (i : Nat) (ks : List Nat) (a b : List V) (r : Bool), flatK P i fs = some ks → eqC ks a b = some r →
    (∀ (j : Nat) (v : V), a[j]? = some v → ∃ x, xs[i + j]? = some x ∧ Rep c x v) → (∀ (j : Nat) (v : V), b[j]? = some v → ∃ x, ys[i + j]? = some x ∧ Rep c x v) →
    (Op.eqFields (d + 1) xs ys fs).run P w = .ok r w := by
  intro fs
  induction fs with
  | nil =>
    intro i ks a b r hk he hx hy
    injection hk with hk; subst hk
    unfold eqC at he
    split at he <;> simp_all [Op.eqFields]
  | cons f fs ih =>
    intro i ks a b r hk he hx hy
    simp only [flatK] at hk
    split at hk
    · rename_i hc
      obtain ⟨hoff, hname⟩ := hc
      obtain ⟨k, hk1, hk⟩ := Option.bind_eq_some_iff.1 hk
      obtain ⟨ks', hk2, rfl⟩ := Option.map_eq_some_iff.1 hk
      have htail : ∀ {l : List V} {v0 : V} {zs : Array Value}, (∀ (j : Nat) (v : V), (v0 :: l)[j]? = some v → ∃ x, zs[i + j]? = some x ∧ Rep c x v) → ∀ (j : Nat) (v : V), l[j]? = some v → ∃ x, zs[i + 1 + j]? = some x ∧ Rep c x v := by
        intro l v0 zs h j v hv
        obtain ⟨x, h1, h2⟩ := h (j + 1) v (by simpa using hv)
        exact ⟨x, by rw [show i + 1 + j = i + (j + 1) by omega]; exact h1, h2⟩
      have step : ∀ (u v : Value) (r0 r1 : Bool), xs[i]? = some u → ys[i]? = some v → AggT P f.type false → (Op.equalIn (d + 1) f.type u v).run P w = .ok r0 w → (Op.eqFields (d + 1) xs ys fs).run P w = .ok r1 w → r = (r0 && r1) →
          (Op.eqFields (d + 1) xs ys (f :: fs)).run P w = .ok r w := by
        intro u v r0 r1 hu hv hag h0 h1 hr
        simp only [Op.eqFields, if_pos hname]
        have p1 : (part f.type xs f.offset).run P w = .ok u w := by simp [part, run_isAgg' hag, hoff, hu]
        have p2 : (part f.type ys f.offset).run P w = .ok v w := by simp [part, run_isAgg' hag, hoff, hv]
        simp only [Sem.run_bind, p1, p2, h0, Result.andThen_ok]
        subst hr
        cases r0
        · simp
        · simpa using h1
      unfold eqC at he
      split at he
      · rename_i _ _ h0; cases h0
      · rename_i ks0 kk p l kk' q m h0
        injection h0 with h0 h0'; subst h0 h0'
        split at he
        · rename_i hkk; subst hkk
          obtain ⟨r1, h1, rfl⟩ := Option.map_eq_some_iff.1 he
          obtain ⟨u, hu, hur⟩ := hx 0 _ rfl
          obtain ⟨v, hv, hvr⟩ := hy 0 _ rfl
          have e1 := rep_int hur; have e2 := rep_int hvr; subst e1 e2
          have hut : ∃ k0, P.underlying f.type = some (.int k0) := by
            split at hk1 <;> first | exact ⟨_, by assumption⟩ | (injection hk1 with hk1; cases hk1) | cases hk1
          obtain ⟨k0, hut⟩ := hut
          exact step _ _ _ _ hu hv ⟨_, hut, rfl⟩ (run_equalIn_int w d f.type kk k0 p q hut) (ih _ _ _ _ _ hk2 h1 (htail hx) (htail hy)) (by congr 1)
        · cases he
      · rename_i ks0 p l q m h0
        injection h0 with h0 h0'; subst h0 h0'
        obtain ⟨r1, h1, rfl⟩ := Option.map_eq_some_iff.1 he
        obtain ⟨u, hu, hur⟩ := hx 0 _ rfl
        obtain ⟨v, hv, hvr⟩ := hy 0 _ rfl
        have e1 := rep_bool hur; have e2 := rep_bool hvr; subst e1 e2
        have hut : P.underlying f.type = some .bool := by
          split at hk1 <;> first | assumption | (injection hk1 with hk1; cases hk1) | cases hk1
        exact step _ _ _ _ hu hv ⟨_, hut, rfl⟩ (equalIn_bool hut p q w d) (ih _ _ _ _ _ hk2 h1 (htail hx) (htail hy)) rfl
      · rename_i ks0 p l q m h0
        injection h0 with h0 h0'; subst h0 h0'
        obtain ⟨r1, h1, rfl⟩ := Option.map_eq_some_iff.1 he
        obtain ⟨u, hu, hur⟩ := hx 0 _ rfl
        obtain ⟨v, hv, hvr⟩ := hy 0 _ rfl
        have e1 := rep_str hur; have e2 := rep_str hvr; subst e1 e2
        have hut : P.underlying f.type = some .string := by
          split at hk1 <;> first | assumption | (injection hk1 with hk1; cases hk1) | cases hk1
        refine step _ _ _ _ hu hv ⟨_, hut, rfl⟩ (run_equalIn_string w d f.type _ _ hut) (ih _ _ _ _ _ hk2 h1 (htail hx) (htail hy)) ?_
        congr 1
        rw [ByteArray.toList_eq, ByteArray.toList_eq]
        simp only [List.toList_toArray]
        rw [Bool.eq_iff_iff]; simp
      · cases he
    · cases hk

theorem res_eqS (ok : Ok c) {op : BinOp} {neg : Bool} {ks : List Nat} {t : TypeId} {fs : Array Field} {x y : Operand} {ax ay : Opd} {ev : Opd → V} {hf : Nat} {ux uy : Value} (ht : P.underlying t = some (.struct fs))
    (hks : flatK P 0 fs.toList = some ks) (hst : P.stoodInHeld t = false) (hg : P.eqGuardType P.depth t = false)
    (hop : op = (if neg then .neq else .eql)) (hx : Rep c ux (ev ax)) (hy : Rep c uy (ev ay)) (h : opW (.eqS neg ks ax ay) ev c.rows hf K) :
    Res c ((do eqGuard op t x y ux uy; binOp op t ux uy : Sem Value).run P c.w) K := by
  simp only [opW] at h
  split at h
  · rename_i a b e1 e2
    rw [e1] at hx; rw [e2] at hy
    cases hx with | agg xs _ hlx hrx =>
    cases hy with | agg ys _ hly hry =>
    unfold eqR at h
    split at h
    · rename_i r hr
      refine Res.same ok h ?_ (mk_bool _)
      have hfo : P.fieldsOf t = fs := by simp [Program.fieldsOf, ht]
      have h1 : (Op.eqFields 9999 xs ys fs.toList).run P c.w = .ok r c.w := eqFields_flat (d := 9998) rfl fs.toList 0 ks a b r hks hr
        (fun j v hv => by
          have hj : j < xs.size := by rw [hlx]; exact (List.getElem?_eq_some_iff.1 hv).1
          exact ⟨xs[j], by simp [hj], hrx j v _ hv (by simp [hj])⟩)
        (fun j v hv => by
          have hj : j < ys.size := by rw [hly]; exact (List.getElem?_eq_some_iff.1 hv).1
          exact ⟨ys[j], by simp [hj], hry j v _ hv (by simp [hj])⟩)
      have h2 : (Op.equalIn 10000 t (.agg xs) (.agg ys)).run P c.w = .ok r c.w := by
        rw [run_equalIn_struct c.w 9999 t xs ys (by rw [hfo]; exact ht) hst, hfo]
        exact h1
      cases neg
      · simp only [Bool.false_eq_true, if_false] at hop ⊢
        subst hop
        rw [Sem.run_bind, run_eqGuard_agg c.w _ t x y xs ys hg, Result.andThen_ok, run_eql_struct, h2]
        rfl
      · simp only [if_true] at hop ⊢
        subst hop
        rw [Sem.run_bind, run_eqGuard_agg c.w _ t x y xs ys hg, Result.andThen_ok, run_neq_struct, h2]
        rfl
    · exact h.elim
  · exact h.elim

theorem equalIn_nil {t e : TypeId} (ht : P.underlying t = some (.slice e)) (a : Option Addr) (n k : Nat) (w : World) (m : Nat) : (Op.equalIn (m + 1) t (.slice a n k) (.slice none 0 0)).run P w = .ok a.isNone w := by
  cases a <;> simp [Op.equalIn, run_underlying ht]
theorem res_isNil (ok : Ok c) {op : BinOp} {neg : Bool} {t e : TypeId} {x y : Operand} {ax ay : Opd} {ev : Opd → V} {hf : Nat} {ux uy : Value} (ht : P.underlying t = some (.slice e))
    (hop : op = (if neg then .neq else .eql)) (hx : Rep c ux (ev ax)) (hy : Rep c uy (ev ay)) (h : opW (.isNil neg ax ay) ev c.rows hf K) :
    Res c ((do eqGuard op t x y ux uy; binOp op t ux uy : Sem Value).run P c.w) K := by
  have key : ∀ (a : Option Addr) (n k : Nat), (do eqGuard op t x y (.slice a n k) (.slice none 0 0); binOp op t (.slice a n k) (.slice none 0 0) : Sem Value).run P c.w = .ok (.bool (if neg then !a.isNone else a.isNone)) c.w := by
    intro a n k
    have he : (Op.equal t (.slice a n k) (.slice none 0 0)).run P c.w = .ok a.isNone c.w := equalIn_nil ht a n k c.w 9999
    cases neg
    · simp only [Bool.false_eq_true, if_false] at hop ⊢
      subst hop
      simp [eqGuard_at_slice, binOp, he]
    · simp only [if_true] at hop ⊢
      subst hop
      simp [eqGuard_at_slice, binOp, he]
  simp only [opW] at h
  split at h
  · rename_i e1 e2
    rw [e1] at hx; rw [e2] at hy
    have := rep_nils hy; subst this
    cases hx with | d _ _ hx =>
    cases hx
    exact Res.same ok h (by rw [key]; cases neg <;> rfl) (mk_bool _)
  · rename_i e1 e2
    rw [e1] at hx; rw [e2] at hy
    have := rep_nils hy; subst this
    cases hx with | d _ _ hx =>
    cases hx
    exact Res.same ok h (by rw [key]; cases neg <;> rfl) (mk_bool _)
  · rename_i e1 e2
    rw [e1] at hx; rw [e2] at hy
    have := rep_nils hy; subst this
    have : ∃ a n k, ux = .slice a n k := by
      cases hx with | d _ _ hx =>
      cases hx <;> exact ⟨_, _, _, rfl⟩
    obtain ⟨a, n, k, rfl⟩ := this
    exact Res.same ok h (key _ _ _) (.d _ _ (.boolU _))
  · exact h.elim

theorem res_un (ok : Ok c) {op : UnOp} {x : Opd} {ev : Opd → V} {hf : Nat} {u : Value} (hr : Rep c u (ev x)) (h : opW (.un op x) ev c.rows hf K) :
    Res c ((Op.unary op u).run P c.w) K := by
  simp only [opW] at h
  unfold unW at h
  split at h
  · rename_i k n e; rw [e] at hr
    have := rep_int hr; subst this
    exact Res.same ok h (by simp [Op.unary, Op.intArith]) (mk_int _ _)
  · rename_i k n e; rw [e] at hr
    have := rep_int hr; subst this
    refine Res.same ok h ?_ (mk_int _ _)
    rfl
  · rename_i b e; rw [e] at hr
    have := rep_bool hr; subst this
    exact Res.same ok h (by simp [Op.unary]) (mk_bool _)
  · exact h.elim

theorem res_conv (ok : Ok c) {src dst : TypeId} {k : IntKind} {x : Opd} {ev : Opd → V} {hf : Nat} {u : Value} (hs : ∃ d, P.underlying src = some d) (hd : P.underlying dst = some (.int k))
    (hr : Rep c u (ev x)) (h : opW (.conv k x) ev c.rows hf K) : Res c ((convert src dst u).run P c.w) K := by
  simp only [opW] at h
  split at h
  · rename_i k' n e; rw [e] at hr
    have := rep_int hr; subst this
    obtain ⟨d, hs⟩ := hs
    refine Res.same ok h ?_ (mk_int _ _)
    simp [convert, run_underlying hs, run_underlying hd, Conv.intToInt]
  · exact h.elim

theorem res_same (ok : Ok c) {src dst : TypeId} {x : Opd} {ev : Opd → V} {hf : Nat} {u : Value} (hs : ∃ d, P.underlying src = some d) (hd : P.underlying dst = some .string)
    (hr : Rep c u (ev x)) (h : opW (.same x) ev c.rows hf K) : Res c ((convert src dst u).run P c.w) K := by
  simp only [opW] at h
  split at h
  · rename_i s e; rw [e] at hr
    have := rep_str hr; subst this
    obtain ⟨d, hs⟩ := hs
    refine Res.same ok h ?_ (mk_str _)
    simp [convert, run_underlying hs, run_underlying hd]
  · exact h.elim

theorem res_fldA (ok : Ok c) {s : TypeId} {fs : Array Field} {n off : Nat} {f : Field} {x : Opd} {ev : Opd → V} {hf : Nat} {u : Value} (hs : P.underlying s = some (.struct fs)) (hfld : fs[n]? = some f)
    (ho : f.offset = off) (hsz : ∃ sz, SzOf P f.type sz ∧ sz ≠ 0) (hr : Rep c u (ev x)) (h : opW (.fldA off x) ev c.rows hf K) : Res c ((Instr.fieldAt s u n).run P c.w) K := by
  obtain ⟨sz, hsz, hne⟩ := hsz
  simp only [opW] at h
  split at h
  · rename_i cs e; rw [e] at hr
    cases hr with | d _ _ hr =>
    cases hr with | ptr _ b o uu hI hcell hrep =>
    refine Res.same ok h (u := .pointer (some ⟨b, o + off, none⟩)) ?_ ?_
    · simp [Instr.fieldAt, run_underlying hs, hfld, Instr.sureAddr, fieldPlace, run_sizeOf' hsz, hne, add_off, ho]
    · refine .d _ _ (.ptr _ b (o + off) (fun j => uu (off + j)) hI (fun j v hj => ?_) (fun j v hj => ?_))
      · rw [List.getElem?_drop] at hj
        rw [Nat.add_assoc]; exact hcell _ v hj
      · rw [List.getElem?_drop] at hj
        exact hrep _ v hj
  · rename_i s' hh m i o e; rw [e] at hr
    obtain ⟨hlive, hk⟩ := h
    obtain ⟨b, hρ, rfl⟩ := rep_optr hr hlive
    obtain ⟨es, hrow, hn⟩ := hlive
    refine Res.same ok hk (u := .pointer (some ⟨b, i * s' + (o + off), none⟩)) ?_ (.optr _ _ _ _ _ b es hrow hn hρ)
    simp [Instr.fieldAt, run_underlying hs, hfld, Instr.sureAddr, fieldPlace, run_sizeOf' hsz, hne, add_off, ho, Nat.add_assoc]
  · exact h.elim

theorem rep_take_drop {vs : Array Value} {cs : List V} (hr : Rep c (.agg vs) (.agg cs)) (off sz : Nat) (h : off + sz ≤ cs.length) :
    Rep c (.agg (vs.extract off (off + sz))) (.agg ((cs.drop off).take sz)) := by
  cases hr with | agg _ _ hlen hrep =>
  refine .agg _ _ (by simp; omega) (fun j v x h1 h2 => ?_)
  rw [List.getElem?_take] at h1
  split at h1
  · rw [List.getElem?_drop] at h1
    rw [Array.getElem?_extract] at h2
    split at h2
    · exact hrep _ v x h1 h2
    · cases h2
  · cases h1

theorem res_fld (ok : Ok c) {s : TypeId} {fs : Array Field} {n off sz : Nat} {agg : Bool} {f : Field} {x : Opd} {ev : Opd → V} {hf : Nat} {u : Value} (hs : P.underlying s = some (.struct fs)) (hfld : fs[n]? = some f)
    (ho : f.offset = off) (hsz : SzOf P f.type sz) (ha : AggT P f.type agg) (hr : Rep c u (ev x)) (h : opW (.fld off sz agg x) ev c.rows hf K) : Res c ((Instr.field s u n).run P c.w) K := by
  simp only [opW] at h
  split at h
  · rename_i cs e; rw [e] at hr
    cases hr with | agg vs _ hlen hrep =>
    cases agg with
    | true =>
      obtain ⟨hle, hk⟩ := h
      refine Res.same ok hk ?_ (rep_take_drop (.agg vs cs hlen hrep) off sz hle)
      simp [Instr.field, run_underlying hs, hfld, asAgg, part, run_isAgg' ha, run_sizeOf' hsz, ho]
    | false =>
      obtain ⟨hlt, hk⟩ := h
      have h1 : cs[off]? = some (cs[off]'hlt) := List.getElem?_eq_getElem hlt
      have h2 : vs[off]? = some (vs[off]'(by omega)) := Array.getElem?_eq_getElem (by omega)
      refine Res.same ok (hk _ h1) ?_ (hrep _ _ _ h1 h2)
      simp [Instr.field, run_underlying hs, hfld, asAgg, part, run_isAgg' ha, ho, h2]
  · exact h.elim

theorem int_of {u : Value} {v : V} {K' : Int → Prop} (hr : Rep c u v) (h : intW v K') : ∃ k n, u = .int k n ∧ K' n := by
  unfold intW at h
  split at h
  · rename_i k n; exact ⟨k, n, rep_int hr, h⟩
  · exact h.elim

theorem res_idxA (ok : Ok c) {t e : TypeId} {sz : Nat} {arr : Option Nat} {x i : Opd} {ev : Opd → V} {hf : Nat} {u ui : Value}
    (ht : match arr with | none => P.underlying t = some (.slice e) | some m => P.underlying t = some (.array m e)) (hs : SzOf P e sz) (hr : Rep c u (ev x)) (hi : Rep c ui (ev i)) (h : opW (.idxA sz arr x i) ev c.rows hf K) :
    Res c ((Instr.indexAt t u ui).run P c.w) K := by
  simp only [opW] at h
  obtain ⟨k, j, rfl, h2⟩ := int_of hi h
  clear h
  have h := h2
  clear h2
  split at h
  · rename_i s es e1
    rw [e1] at hr
    obtain ⟨rfl, h0, hlt, hk⟩ := h
    simp only at ht
    have hjl : j.toNat < es.length := by omega
    have hje : es[j.toNat]? = some (es[j.toNat]'hjl) := List.getElem?_eq_getElem hjl
    cases hr with | d _ _ hr =>
    generalize hes : es = es' at *
    cases hr with
    | slNil => subst hes; simp at hjl
    | slEmp => subst hes; simp at hjl
    | sl _ _ b off cap uu hcap hI hsz hcell hrep =>
    refine Res.same ok (hk _ hje) (u := .pointer (some ⟨b, off + j.toNat * s, none⟩)) ?_ ?_
    · simp [Instr.indexAt, asIntOf, run_underlying ht, h0, hlt, run_sizeOf' hs, add_off]
    · refine .d _ _ (.ptr _ b _ (fun m => uu j.toNat m) hI (fun m v hm => ?_) (fun m v hm => hrep _ _ _ v hje hm))
      have := hcell _ _ _ v hje hm
      rwa [Nat.add_assoc]
  · rename_i s hh n off len e1
    rw [e1] at hr
    obtain ⟨rfl, hlive, h0, hlt, hk⟩ := h
    simp only at ht
    rcases rep_osl hr hlive with ⟨rfl, rfl, rfl, rfl, _⟩ | ⟨cap, b, o, arr, ty, fz, rfl, hρ, hb, ho, hcap, hlc, hlen⟩
    · omega
    · obtain ⟨es, hrow, hn⟩ := hlive
      have ho' : o = off * s := ho.resolve_right (by omega)
      subst ho'
      refine Res.same ok hk (u := .pointer (some ⟨b, (off + j.toNat) * s + 0, none⟩)) ?_ (.optr _ _ _ _ _ b es hrow hn hρ)
      simp [Instr.indexAt, asIntOf, run_underlying ht, h0, hlt, run_sizeOf' hs, add_off, Nat.add_mul]
  · rename_i m cs e1
    rw [e1] at hr
    obtain ⟨h0, hlt, hk⟩ := h
    simp only at ht
    cases hr with | d _ _ hr =>
    cases hr with | ptr _ b o uu hI hcell hrep =>
    refine Res.same ok hk (u := .pointer (some ⟨b, o + j.toNat * sz, none⟩)) ?_ ?_
    · simp [Instr.indexAt, asIntOf, run_underlying ht, Instr.sureAddr, h0, hlt, run_sizeOf' hs, add_off]
    · refine .d _ _ (.ptr _ b _ (fun q => uu (j.toNat * sz + q)) hI (fun q v hq => ?_) (fun q v hq => ?_))
      · rw [List.getElem?_drop] at hq
        rw [Nat.add_assoc]; exact hcell _ v hq
      · rw [List.getElem?_drop] at hq
        exact hrep _ v hq
  · rename_i m s' hh n i' o e1
    rw [e1] at hr
    obtain ⟨hlive, h0, hlt, hk⟩ := h
    simp only at ht
    obtain ⟨b, hρ, rfl⟩ := rep_optr hr hlive
    obtain ⟨es, hrow, hn⟩ := hlive
    refine Res.same ok hk (u := .pointer (some ⟨b, i' * s' + (o + j.toNat * sz), none⟩)) ?_ (.optr _ _ _ _ _ b es hrow hn hρ)
    simp [Instr.indexAt, asIntOf, run_underlying ht, Instr.sureAddr, h0, hlt, run_sizeOf' hs, add_off, Nat.add_assoc]
  · exact h.elim

theorem res_idx (ok : Ok c) {t e : TypeId} {sz n : Nat} {agg : Bool} {x i : Opd} {ev : Opd → V} {hf : Nat} {u ui : Value} (ht : P.underlying t = some (.array n e)) (hs : SzOf P e sz) (ha : AggT P e agg)
    (hr : Rep c u (ev x)) (hi : Rep c ui (ev i)) (h : opW (.idx sz n agg x i) ev c.rows hf K) : Res c ((Instr.index t u ui).run P c.w) K := by
  simp only [opW] at h
  obtain ⟨k, j, rfl, h2⟩ := int_of hi h
  clear h
  have h := h2
  clear h2
  split at h
  · rename_i cs e1
    rw [e1] at hr
    obtain ⟨h0, hlt, hcl, h⟩ := h
    cases hr with | agg vs _ hlen hrep =>
    have hm : j.toNat * sz + sz ≤ cs.length := by
      have : (j.toNat + 1) * sz ≤ n * sz := Nat.mul_le_mul_right _ (by omega)
      rw [Nat.succ_mul] at this
      omega
    cases agg with
    | true =>
      refine Res.same ok h ?_ (rep_take_drop (.agg vs cs hlen hrep) _ sz hm)
      simp [Instr.index, asIntOf, run_underlying ht, h0, hlt, run_sizeOf' hs, part, run_isAgg' ha]
    | false =>
      obtain ⟨rfl, hk⟩ := h
      have h1 : cs[j.toNat]? = some (cs[j.toNat]'(by omega)) := List.getElem?_eq_getElem _
      have h2 : vs[j.toNat]? = some (vs[j.toNat]'(by omega)) := Array.getElem?_eq_getElem _
      refine Res.same ok (hk _ h1) ?_ (hrep _ _ _ h1 h2)
      simp [Instr.index, asIntOf, run_underlying ht, h0, hlt, run_sizeOf' hs, part, run_isAgg' ha, h2]
  · exact h.elim

theorem res_idxS (ok : Ok c) {t : TypeId} {x i : Opd} {ev : Opd → V} {hf : Nat} {u ui : Value} (ht : P.underlying t = some .string)
    (hr : Rep c u (ev x)) (hi : Rep c ui (ev i)) (h : opW (.idxS x i) ev c.rows hf K) : Res c ((Instr.index t u ui).run P c.w) K := by
  simp only [opW] at h
  obtain ⟨k, j, rfl, h2⟩ := int_of hi h
  clear h
  have h := h2
  clear h2
  split at h
  · rename_i s e1
    rw [e1] at hr
    obtain ⟨h0, hlt, hk⟩ := h
    have := rep_str hr; subst this
    have h1 : s[j.toNat]? = some (s[j.toNat]'(by omega)) := List.getElem?_eq_getElem _
    refine Res.same ok (hk _ h1) ?_ (mk_int _ _)
    have hg : (⟨s.toArray⟩ : ByteArray)[j.toNat]? = some (s[j.toNat]'(by omega)) := by
      rw [getElem?_pos (⟨s.toArray⟩ : ByteArray) j.toNat (by simp [ByteArray.size]; omega)]
      rfl
    simp [Instr.index, asIntOf, run_underlying ht, h0, hg]
  · exact h.elim

theorem res_ext (ok : Ok c) {x : Opd} {n : Nat} {ev : Opd → V} {hf : Nat} {u : Value} (hr : Rep c u (ev x)) (h : opW (.ext x n) ev c.rows hf K) : Res c ((Instr.extract u n).run P c.w) K := by
  simp only [opW] at h
  split at h
  · rename_i vs e1
    rw [e1] at hr
    obtain ⟨hlt, hk⟩ := h
    cases hr with | tup us _ hlen hrep =>
    have h1 : vs[n]? = some (vs[n]'hlt) := List.getElem?_eq_getElem _
    have h2 : us[n]? = some (us[n]'(by omega)) := Array.getElem?_eq_getElem _
    refine Res.same ok (hk _ h1) ?_ (hrep _ _ _ h1 h2)
    simp [Instr.extract, h2]
  · exact h.elim

theorem res_mn (ok : Ok c) {t : Array TypeId} {ty : TypeId} {x y : Opd} {ev : Opd → V} {hf : Nat} {ux uy : Value} (hx : Rep c ux (ev x)) (hy : Rep c uy (ev y)) (h : opW (.mn x y) ev c.rows hf K) :
    Res c ((Builtin.min_ t ty #[ux, uy]).run P c.w) K := by
  simp only [opW] at h
  split at h
  · rename_i k a k' b e1 e2
    rw [e1] at hx; rw [e2] at hy
    have ex := rep_int hx; have ey := rep_int hy
    subst ex ey
    refine Res.same ok h ?_ (mk_int _ _)
    simp [Builtin.min_, Builtin.min2]
  · exact h.elim

theorem res_mx (ok : Ok c) {t : Array TypeId} {ty : TypeId} {x y : Opd} {ev : Opd → V} {hf : Nat} {ux uy : Value} (hx : Rep c ux (ev x)) (hy : Rep c uy (ev y)) (h : opW (.mx x y) ev c.rows hf K) :
    Res c ((Builtin.max_ t ty #[ux, uy]).run P c.w) K := by
  simp only [opW] at h
  split at h
  · rename_i k a k' b e1 e2
    rw [e1] at hx; rw [e2] at hy
    have ex := rep_int hx; have ey := rep_int hy
    subst ex ey
    refine Res.same ok h ?_ (mk_int _ _)
    simp [Builtin.max_, Builtin.max2]
  · exact h.elim

end
end Go.Vx

namespace Go.Vx
section
variable {P : Program} {c : Cx} {K : V → List (Nat × RowS) → Prop}

def BndRep (c : Cx) (ev : Opd → V) : Option Opd → Option Value → Prop
  | none, none => True
  | some x, some u => Rep c u (ev x)
  | _, _ => False

theorem bnd_of {ev : Opd → V} {o : Option Opd} {o' : Option Value} {d : Int} {K' : Int → Prop} (hb : BndRep c ev o o') (h : bndW ev o d K') :
    ∃ n, K' n ∧ ((o' = none ∧ n = d) ∨ ∃ k, o' = some (.int k n)) := by
  unfold bndW at h
  cases o with
  | none =>
    cases o' with
    | none => exact ⟨d, h, .inl ⟨rfl, rfl⟩⟩
    | some u => exact hb.elim
  | some x =>
    cases o' with
    | none => exact hb.elim
    | some u =>
      obtain ⟨k, n, rfl, h⟩ := int_of hb h
      exact ⟨n, h, .inr ⟨k, rfl⟩⟩

theorem run_bounds {w : World} {isS : Bool} {len cap : Nat} {lo hi : Option Value} {l h : Int} (hlo : (lo = none ∧ l = 0) ∨ ∃ k, lo = some (.int k l))
    (hhi : (hi = none ∧ h = len) ∨ ∃ k, hi = some (.int k h)) (h0 : 0 ≤ l) (hlh : l ≤ h) (hc : h ≤ cap) :
    (Instr.sliceBounds isS len cap lo hi none).run P w = .ok (l.toNat, h.toNat, cap) w := by
  have h2 : 0 ≤ h := by omega
  have h3 : ((h.toNat : Nat) : Int) = h := by omega
  rcases hlo with ⟨rfl, rfl⟩ | ⟨k, rfl⟩ <;> rcases hhi with ⟨rfl, rfl⟩ | ⟨k', rfl⟩
  · simp [Instr.sliceBounds]
  · simp [Instr.sliceBounds, Instr.sliceBound, asIntOf, h2, hc]
  · simp [Instr.sliceBounds, Instr.sliceBound, asIntOf, h0, hlh]
  · simp [Instr.sliceBounds, Instr.sliceBound, asIntOf, h2, hc, h0, h3, hlh]

theorem extract_str (s : List UInt8) (l h : Nat) : (⟨s.toArray⟩ : ByteArray).extract l h = ⟨((s.take h).drop l).toArray⟩ := by
  apply ByteArray.ext
  apply Array.ext'
  rw [Lib.extract_data]
  simp [List.drop_take]

theorem size_str (s : List UInt8) : (⟨s.toArray⟩ : ByteArray).size = s.length := by simp [← ByteArray.size_data]

theorem res_slice (ok : Ok c) {t e : TypeId} {sz : Nat} {x : Opd} {lo hi : Option Opd} {ev : Opd → V} {hf : Nat} {u : Value} {lo' hi' : Option Value} (ht : if sz = 0 then P.underlying t = some .string else P.underlying t = some (.slice e)) (hs : sz ≠ 0 → SzOf P e sz)
    (hr : Rep c u (ev x)) (hl : BndRep c ev lo lo') (hh : BndRep c ev hi hi') (h : opW (.slice sz x lo hi) ev c.rows hf K) :
    Res c ((Instr.sliceAt t u lo' hi' none).run P c.w) K := by
  simp only [opW] at h
  have fin : ∀ (a : Option Addr) (len cap : Nat) (l r : Int), sz ≠ 0 → ((lo' = none ∧ l = 0) ∨ ∃ k, lo' = some (.int k l)) → ((hi' = none ∧ r = len) ∨ ∃ k, hi' = some (.int k r)) → 0 ≤ l → l ≤ r → r ≤ cap →
      (Instr.sliceAt t (.slice a len cap) lo' hi' none).run P c.w = .ok (.slice (if cap = l.toNat then a else a.map (·.add (l.toNat * sz))) (r.toNat - l.toNat) (cap - l.toNat)) c.w := by
    intro a len cap l r hz0 el er h0 h1 h2
    rw [if_neg hz0] at ht
    have hs := hs hz0
    have hb := run_bounds (P := P) (w := c.w) (isS := true) (len := len) (cap := cap) el er h0 h1 h2
    simp [Instr.sliceAt, run_underlying ht, Instr.slice, hb, run_sizeOf' hs]
  split at h
  · rename_i e1; rw [e1] at hr
    have := rep_nils hr; subst this
    obtain ⟨hz0, h⟩ := h
    obtain ⟨l, h, el⟩ := bnd_of hl h
    obtain ⟨r, h, er⟩ := bnd_of hh h
    obtain ⟨rfl, rfl, hk⟩ := h
    refine Res.same ok hk ?_ (.d _ _ .nils)
    rw [fin none 0 0 0 0 hz0 el er (by omega) (by omega) (by omega)]
    simp
  · rename_i s es e1; rw [e1] at hr
    obtain ⟨hz0, rfl, h⟩ := h
    obtain ⟨l, h, el⟩ := bnd_of hl h
    obtain ⟨r, h, er⟩ := bnd_of hh h
    obtain ⟨h0, h1, h2, hk⟩ := h
    cases hr with | d _ _ hr =>
    generalize hes : es = es' at *
    cases hr with
    | slNil =>
      subst hes
      simp at h2
      have : l = 0 := by omega
      have : r = 0 := by omega
      subst l r
      refine Res.same ok hk ?_ (.d _ _ (.slNil _))
      rw [fin none 0 0 0 0 hz0 el (by simpa using er) (by omega) (by omega) (by omega)]
      simp
    | slEmp _ a cap =>
      subst hes
      simp at h2
      have : l = 0 := by omega
      have : r = 0 := by omega
      subst l r
      refine Res.same ok hk (u := .slice (if cap = 0 then some a else some (a.add (0 * s))) 0 cap) ?_ ?_
      · rw [fin (some a) 0 cap 0 0 hz0 el (by simpa using er) (by omega) (by omega) (by omega)]
        simp
      · split <;> exact .d _ _ (.slEmp _ _ _)
    | sl _ _ b off cap uu hcap hI hsz hcell hrep =>
      have hlen : ((es'.take r.toNat).drop l.toNat).length = r.toNat - l.toNat := by simp; omega
      by_cases hcl : cap = l.toNat
      · have hz : (es'.take r.toNat).drop l.toNat = [] := List.eq_nil_of_length_eq_zero (by omega)
        have hz2 : r.toNat - l.toNat = 0 := by omega
        rw [hz] at hk
        refine Res.same ok hk (u := .slice (some ⟨b, off, none⟩) 0 (cap - l.toNat)) ?_ (.d _ _ (.slEmp _ _ _))
        rw [fin _ _ _ l r hz0 el er h0 h1 (by omega), if_pos hcl, hz2]
      · refine Res.same ok hk (u := .slice (some ⟨b, off + l.toNat * s, none⟩) ((es'.take r.toNat).drop l.toNat).length (cap - l.toNat)) ?_ ?_
        · rw [fin _ _ _ l r hz0 el er h0 h1 (by omega), if_neg hcl, hlen]
          simp [add_off]
        · have hget : ∀ i e', ((es'.take r.toNat).drop l.toNat)[i]? = some e' → es'[l.toNat + i]? = some e' := fun i e' h => by
            rw [List.getElem?_drop, List.getElem?_take] at h
            split at h
            · exact h
            · cases h
          refine .d _ _ (.sl s _ b _ _ (fun i j => uu (l.toNat + i) j) (by omega) hI (fun e' he => hsz e' (List.mem_of_mem_take (List.mem_of_mem_drop he))) (fun i e' j v h3 h4 => ?_) (fun i e' j v h3 h4 => hrep _ _ _ _ (hget i e' h3) h4))
          have := hcell _ _ _ _ (hget i e' h3) h4
          rw [Nat.add_mul] at this
          rw [← this]; congr 2; omega
  · rename_i s e1; rw [e1] at hr
    obtain ⟨hz0, h⟩ := h
    rw [if_pos hz0] at ht
    have := rep_str hr; subst this
    obtain ⟨l, h, el⟩ := bnd_of hl h
    obtain ⟨r, h, eh⟩ := bnd_of hh h
    obtain ⟨h0, h1, h2, hk⟩ := h
    refine Res.same ok hk ?_ (mk_str _)
    have hb := run_bounds (P := P) (w := c.w) (isS := false) (len := s.length) (cap := s.length) el eh h0 h1 (by omega)
    simp [Instr.sliceAt, run_underlying ht, Instr.slice, size_str, hb, extract_str]
  · rename_i s hh' n off len e1; rw [e1] at hr
    obtain ⟨hz0, rfl, hlive, h⟩ := h
    obtain ⟨l, h, el⟩ := bnd_of hl h
    obtain ⟨r, h, er⟩ := bnd_of hh h
    obtain ⟨h0, h1, h2, hk⟩ := h
    rcases rep_osl hr hlive with ⟨rfl, rfl, rfl, rfl, hρ⟩ | ⟨cap, b, o, arr, ty, fz, rfl, hρ, hb, ho, hcap, hlc, hlen⟩
    · have : l = 0 := by omega
      have : r = 0 := by omega
      subst l r
      obtain ⟨es, hrow, hn⟩ := hlive
      have hes : es = [] := List.eq_nil_of_length_eq_zero hn
      subst hes
      refine Res.same ok hk ?_ (.oslVirt _ _ hrow hρ)
      rw [fin none 0 0 0 0 hz0 el (by simpa using er) (by omega) (by omega) (by omega)]
      simp
    · obtain ⟨es, hrow, hn⟩ := hlive
      refine Res.same ok hk (u := .slice (some ⟨b, if cap = l.toNat then o else o + l.toNat * s, none⟩) (r.toNat - l.toNat) (cap - l.toNat)) ?_ ?_
      · rw [fin _ _ _ l r hz0 el er h0 h1 (by omega)]
        split <;> simp [add_off]
      · refine .osl _ _ _ _ _ _ b _ es arr ty fz hrow hn hρ hb ?_ ?_ (by omega) (by omega)
        · by_cases hcl : cap = l.toNat
          · exact .inr (by omega)
          · rw [if_neg hcl]
            refine .inl ?_
            rw [ho.resolve_right (by omega), Nat.add_mul]
        · rw [show off + l.toNat + (cap - l.toNat) = off + cap by omega]; exact hcap
  · exact h.elim

theorem res_len (ok : Ok c) {t ty : TypeId} {str : Bool} {x : Opd} {ev : Opd → V} {hf : Nat} {u : Value} (ht : if str then P.underlying t = some .string else ∃ e, P.underlying t = some (.slice e))
    (hr : Rep c u (ev x)) (h : opW (.len str x) ev c.rows hf K) : Res c ((Builtin.len_ #[t] ty #[u]).run P c.w) K := by
  simp only [opW] at h
  have fin : ∀ (a : Option Addr) (n cap : Nat), str = false → (Builtin.len_ #[t] ty #[.slice a n cap]).run P c.w = .ok (.int .i64 n) c.w := by
    intro a n cap hs
    rw [hs] at ht
    obtain ⟨e, he⟩ := ht
    simp [Builtin.len_, run_underlying he, goInt]
  split at h
  · rename_i e1; rw [e1] at hr
    have := rep_nils hr; subst this
    exact Res.same ok h (fin _ _ _ rfl) (mk_int _ _)
  · rename_i s es e1; rw [e1] at hr
    cases hr with | d _ _ hr =>
    generalize hes : es = es' at *
    cases hr with
    | slNil => subst hes; exact Res.same ok h (by simpa using fin none 0 0 rfl) (mk_int _ _)
    | slEmp _ a cap => subst hes; exact Res.same ok h (by simpa using fin (some a) 0 cap rfl) (mk_int _ _)
    | sl _ _ b off cap uu hcap hI hsz hcell hrep => exact Res.same ok h (fin _ _ _ rfl) (mk_int _ _)
  · rename_i s e1; rw [e1] at hr
    have := rep_str hr; subst this
    simp only [if_true] at ht
    refine Res.same ok h ?_ (mk_int _ _)
    simp [Builtin.len_, run_underlying ht, goInt, size_str]
  · rename_i s hh n off len e1; rw [e1] at hr
    obtain ⟨hlive, hk⟩ := h
    rcases rep_osl hr hlive with ⟨rfl, rfl, rfl, rfl, _⟩ | ⟨cap, b, o, arr, ty, fz, rfl, hρ, hb, ho, hcap, hlc, hlen⟩
    · exact Res.same ok hk (fin _ _ _ rfl) (mk_int _ _)
    · exact Res.same ok hk (fin _ _ _ rfl) (mk_int _ _)
  · exact h.elim

end
end Go.Vx

namespace Go.Vx
section
variable {P : Program} {c : Cx} {K : V → List (Nat × RowS) → Prop}

theorem mul_div_sz {m n sz : Nat} (h : m < n * sz) : m / sz < n ∧ m % sz < sz := by
  have hpos : 0 < sz := by rcases Nat.eq_zero_or_pos sz with h0 | h0 <;> simp_all
  exact ⟨(Nat.div_lt_iff_lt_mul hpos).2 h, Nat.mod_lt _ hpos⟩

theorem idx_div {i j sz : Nat} (h : j < sz) : (i * sz + j) / sz = i ∧ (i * sz + j) % sz = j := by
  have hpos : 0 < sz := by omega
  rw [Nat.mul_comm i sz]
  exact ⟨by rw [Nat.mul_add_div hpos, Nat.div_eq_of_lt h, Nat.add_zero], by rw [Nat.mul_add_mod, Nat.mod_eq_of_lt h]⟩

/-- What is read of a slice or string that is a source. -/
def Src (P : Program) (c : Cx) (sz : Nat) (u : Value) (es : List (List V)) (fl : List Value) : Prop :=
  fl.length = es.length * sz ∧ Cont c sz es fl.toArray ∧ (Builtin.lenOf u).run P c.w = .ok es.length c.w ∧
  ∀ w', (∀ b o, b < c.w.heap.size → w'.cell? ⟨b, o, none⟩ = c.w.cell? ⟨b, o, none⟩) → ∀ n, n ≤ es.length → (Builtin.firstCells sz n u).run P w' = .ok (fl.take (n * sz)).toArray w'

theorem cell_lt {w : World} {b o : Nat} {v : Value} (h : w.cell? ⟨b, o, none⟩ = some v) : b < w.heap.size := World.block_lt_of_cell? w _ h

theorem take_range_map {α : Type} (f : Nat → α) (m k : Nat) (h : k ≤ m) : ((List.range m).map f).take k = (List.range k).map f := by
  rw [← List.map_take, List.take_range, Nat.min_eq_left h]

theorem src_of (ok : Ok c) {sz : Nat} {u : Value} {v : V} {K' : List (List V) → Prop} (hr : Rep c u v) (h : elemsW c.rows sz v K') :
    ∃ es fl, K' es ∧ Src P c sz u es fl := by
  unfold elemsW at h
  split at h
  · have := rep_nils hr; subst this
    exact ⟨[], [], h, by simp, ⟨by simp, by simp, by simp⟩, by simp [Builtin.lenOf], fun w' _ n hn => by simp [Builtin.firstCells]⟩
  · rename_i s es
    obtain ⟨rfl, hk⟩ := h
    cases hr with | d _ _ hr =>
    refine ⟨es.map (·.map .d), ?_⟩
    generalize hes : es = es' at *
    cases hr with
    | slNil => subst hes; exact ⟨[], hk, by simp, ⟨by simp, by simp, by simp⟩, by simp [Builtin.lenOf], fun w' _ n hn => by simp [Builtin.firstCells]⟩
    | slEmp _ a cap =>
      subst hes
      refine ⟨[], hk, by simp, ⟨by simp, by simp, by simp⟩, by simp [Builtin.lenOf], fun w' _ n hn => ?_⟩
      have hn0 : n = 0 := by simpa using hn
      subst hn0
      simp [Builtin.firstCells, loadCells, loadCellsFrom]
    | sl _ _ b off cap uu hcap hI hsz hcell hrep =>
      have hel : ∀ m, m < es'.length * s → ∃ e v, es'[m / s]? = some e ∧ e[m % s]? = some v := fun m hm => by
        obtain ⟨h1, h2⟩ := mul_div_sz hm
        have h3 : es'[m / s]? = some (es'[m / s]'h1) := List.getElem?_eq_getElem h1
        have h4 := hsz _ (List.mem_of_getElem? h3)
        exact ⟨_, _, h3, List.getElem?_eq_getElem (by omega)⟩
      refine ⟨(List.range (es'.length * s)).map (fun m => uu (m / s) (m % s)), hk, by simp, ⟨?_, by simp, ?_⟩, by simp [Builtin.lenOf], ?_⟩
      · intro e he
        obtain ⟨e', he', rfl⟩ := List.mem_map.1 he
        exact ⟨by simpa using hsz e' he', map_d_one e'⟩
      · intro i e j v h1 h2
        simp only [List.getElem?_map] at h1
        obtain ⟨e', he', rfl⟩ := Option.map_eq_some_iff.1 h1
        simp only [List.getElem?_map] at h2
        obtain ⟨d, hd, rfl⟩ := Option.map_eq_some_iff.1 h2
        have hj : j < s := by have := (List.getElem?_eq_some_iff.1 hd).1; have := hsz _ (List.mem_of_getElem? he'); omega
        have hi : i < es'.length := (List.getElem?_eq_some_iff.1 he').1
        have hlt := mul_lt_of (sz := s) hi hj
        refine ⟨uu i j, ?_, .d _ _ (hrep i e' j d he' hd)⟩
        simp [hlt, (idx_div hj).1, (idx_div hj).2]
      · intro w' hw' n hn
        rw [List.length_map] at hn
        rw [take_range_map _ _ _ (Nat.mul_le_mul_right _ hn)]
        refine run_loadRow b off (n * s) _ (fun m hm => ?_)
        have hm' : m < es'.length * s := Nat.lt_of_lt_of_le hm (Nat.mul_le_mul_right _ hn)
        obtain ⟨e, v, h1, h2⟩ := hel m hm'
        have h3 := hcell _ _ _ _ h1 h2
        have h4 : m / s * s + m % s = m := by rw [Nat.mul_comm]; exact Nat.div_add_mod m s
        rw [h4] at h3
        rw [hw' _ _ (cell_lt h3), h3]
  · rename_i s
    obtain ⟨rfl, hk⟩ := h
    have := rep_str hr; subst this
    refine ⟨_, s.map fun b => .int .u8 b.toNat, hk, by simp, ⟨?_, by simp, ?_⟩, by simp [Builtin.lenOf, size_str], ?_⟩
    · intro e he
      obtain ⟨b, _, rfl⟩ := List.mem_map.1 he
      exact ⟨rfl, by simp [oneV]⟩
    · intro i e j v h1 h2
      simp only [List.getElem?_map] at h1
      obtain ⟨b, hb, rfl⟩ := Option.map_eq_some_iff.1 h1
      cases j with
      | zero => simp at h2; subst h2; exact ⟨.int .u8 b.toNat, by simp [hb], mk_int _ _⟩
      | succ j => simp at h2
    · intro w' _ n hn
      have : (⟨s.toArray⟩ : ByteArray).extract 0 n = ⟨(s.take n).toArray⟩ := by simpa using extract_str s 0 n
      simp [Builtin.firstCells, this]
  · rename_i s hh n off len
    obtain ⟨rfl, hlive, hk⟩ := h
    rcases rep_osl hr hlive with ⟨rfl, rfl, rfl, rfl, hρ⟩ | ⟨cap, b, o, arr, ty, fz, rfl, hρ, hb, ho, hcap, hlc, hlen⟩
    · obtain ⟨es, hrow, hn⟩ := hlive
      have hes : es = [] := List.eq_nil_of_length_eq_zero hn
      subst hes
      refine ⟨_, [], hk _ hrow, by simp, ⟨by simp, by simp, by simp⟩, by simp [Builtin.lenOf], fun w' _ n hn => ?_⟩
      simp [Builtin.firstCells]
    · obtain ⟨es, hrow, hn⟩ := hlive
      obtain ⟨arr', ty', fz', hb', hfz, hc⟩ := row_cells ok hrow hρ
      rw [hb] at hb'; injection hb' with hb'; injection hb' with e1 e2 e3; subst e1 e2 e3
      have hll : ((es.drop off).take len).length = len := by simp; omega
      have hfit : (off + len) * s ≤ arr.size := Nat.le_trans (Nat.mul_le_mul_right _ (by omega)) hc.2.1
      rw [Nat.add_mul] at hfit
      refine ⟨_, (List.range (len * s)).map (fun m => arr.getD (off * s + m) undef), hk _ hrow, by simp [hll], ⟨?_, by rw [hll]; simp, ?_⟩, by rw [hll]; simp [Builtin.lenOf], ?_⟩
      · intro e he
        exact hc.1 e (List.mem_of_mem_drop (List.mem_of_mem_take he))
      · intro i e j v h1 h2
        have hi : i < len := by have := (List.getElem?_eq_some_iff.1 h1).1; omega
        rw [List.getElem?_take, if_pos hi, List.getElem?_drop] at h1
        have hj : j < s := by have := (List.getElem?_eq_some_iff.1 h2).1; have := (hc.1 _ (List.mem_of_getElem? h1)).1; omega
        have hlt := mul_lt_of (sz := s) hi hj
        obtain ⟨x, hx, hxr⟩ := hc.2.2 _ _ _ _ h1 h2
        refine ⟨x, ?_, hxr⟩
        rw [Nat.add_mul, Nat.add_assoc] at hx
        simp [hlt, Array.getD_eq_getD_getElem?, hx]
      · intro w' hw' n hn
        rw [hll] at hn
        rw [take_range_map _ _ _ (Nat.mul_le_mul_right _ hn)]
        refine run_loadRow b o (n * s) _ (fun m hm => ?_)
        have hm' : m < len * s := Nat.lt_of_lt_of_le hm (Nat.mul_le_mul_right _ hn)
        have hcp : cap ≠ 0 := by
          intro h0
          have : len = 0 := by omega
          subst this
          simp at hm'
        rw [ho.resolve_right hcp, hw' _ _ (Array.getElem?_eq_some_iff.1 hb).1, cell_of hb]
        simp [Array.getD_eq_getD_getElem?, show off * s + m < arr.size by omega]
  · exact h.elim

theorem cont_cat {sz : Nat} {es xs : List (List V)} {A B : List Value} {rest : List Value} (hA : A.length = es.length * sz) (hB : B.length = xs.length * sz)
    (h1 : Cont c sz es A.toArray) (h2 : Cont c sz xs B.toArray) : Cont c sz (es ++ xs) (A ++ B ++ rest).toArray := by
  refine ⟨fun e he => ?_, by simp [hA, hB, Nat.add_mul], fun i e j v h3 h4 => ?_⟩
  · rcases List.mem_append.1 he with he | he
    · exact h1.1 e he
    · exact h2.1 e he
  · rw [List.getElem?_append] at h3
    split at h3
    · rename_i hi
      obtain ⟨x, hx, hr⟩ := h1.2.2 i e j v h3 h4
      have hj : j < sz := by have := (List.getElem?_eq_some_iff.1 h4).1; have := (h1.1 _ (List.mem_of_getElem? h3)).1; omega
      have hlt := mul_lt_of (sz := sz) hi hj
      refine ⟨x, ?_, hr⟩
      simp only [List.getElem?_toArray] at hx ⊢
      rw [List.append_assoc, List.getElem?_append_left (by omega)]
      exact hx
    · rename_i hi
      obtain ⟨x, hx, hr⟩ := h2.2.2 _ e j v h3 h4
      have hj : j < sz := by have := (List.getElem?_eq_some_iff.1 h4).1; have := (h2.1 _ (List.mem_of_getElem? h3)).1; omega
      have hi2 : i - es.length < xs.length := (List.getElem?_eq_some_iff.1 h3).1
      have hlt := mul_lt_of (sz := sz) hi2 hj
      refine ⟨x, ?_, hr⟩
      simp only [List.getElem?_toArray] at hx ⊢
      have hge : es.length * sz ≤ i * sz := Nat.mul_le_mul_right _ (by omega)
      have heq : i * sz + j - A.length = (i - es.length) * sz + j := by rw [hA, Nat.sub_mul]; omega
      rw [List.append_assoc, List.getElem?_append_right (by omega), heq, List.getElem?_append_left (by omega)]
      exact hx

theorem cont_take {sz : Nat} {es : List (List V)} {arr : Array Value} (h : Cont c sz es arr) (n : Nat) (hn : n ≤ es.length) : Cont c sz (es.take n) (arr.toList.take (n * sz)).toArray := by
  have hm : n * sz ≤ es.length * sz := Nat.mul_le_mul_right _ hn
  have h0 := h.2.1
  refine ⟨fun e he => h.1 e (List.mem_of_mem_take he), by simp; rw [Nat.min_eq_left hn]; omega, fun i e j v h1 h2 => ?_⟩
  rw [List.getElem?_take] at h1
  split at h1
  · rename_i hi
    obtain ⟨x, hx, hr⟩ := h.2.2 i e j v h1 h2
    have hj : j < sz := by have := (List.getElem?_eq_some_iff.1 h2).1; have := (h.1 _ (List.mem_of_getElem? h1)).1; omega
    have hlt := mul_lt_of (sz := sz) hi hj
    refine ⟨x, ?_, hr⟩
    simp only [List.getElem?_toArray, List.getElem?_take, if_pos hlt]
    simpa using hx
  · cases h1

theorem cont_drop {sz : Nat} {es : List (List V)} {arr : Array Value} (h : Cont c sz es arr) (n : Nat) (hn : n ≤ es.length) : Cont c sz (es.drop n) (arr.toList.drop (n * sz)).toArray := by
  have hm : n * sz ≤ es.length * sz := Nat.mul_le_mul_right _ hn
  have h0 := h.2.1
  refine ⟨fun e he => h.1 e (List.mem_of_mem_drop he), by simp [Nat.sub_mul]; omega, fun i e j v h1 h2 => ?_⟩
  rw [List.getElem?_drop] at h1
  obtain ⟨x, hx, hr⟩ := h.2.2 _ e j v h1 h2
  refine ⟨x, ?_, hr⟩
  simp only [List.getElem?_toArray, List.getElem?_drop]
  rw [← Nat.add_assoc, ← Nat.add_mul]
  simpa using hx

theorem set_same {rows : Rows} {h : Nat} {r : RowS} (hr : rows[h]? = some r) : rows.set h r = rows := by
  apply List.ext_getElem?
  intro k
  by_cases hk : h = k
  · subst hk
    obtain ⟨h1, h2⟩ := List.getElem?_eq_some_iff.1 hr
    simp [h1, h2]
  · rw [List.getElem?_set_ne hk]

theorem run_append_grow {t t' ty e : TypeId} {sz bytes len cap m : Nat} {base : Option Addr} {x : Value} {old news : List Value} {w : World} {d : TypeDesc} {zero : List D}
    (ht : P.underlying t = some (.slice e)) (ht' : P.underlying t' = some d) (hd : d = .string ∨ ∃ e', d = .slice e') (hi : ∃ i, P.info? e = some i ∧ i.size = sz ∧ i.bytes = bytes) (hz : ZeroOf P e zero) (hzl : zero.length = sz)
    (hb0 : bytes ≠ 0) (hlen : (Builtin.lenOf x).run P w = .ok m w) (hbytes : (len + m) * bytes ≤ maxBytes) (hgrow : cap < len + m)
    (hold : (Builtin.firstCells sz len (.slice base len cap)).run P w.drew = .ok old.toArray w.drew) (hnew : (Builtin.firstCells sz m x).run P w.drew = .ok news.toArray w.drew) :
    ∃ newCap zs w', (Builtin.append_ #[t, t'] ty #[.slice base len cap, x]).run P w = .ok (.slice (some ⟨w.heap.size, 0, none⟩) (len + m) newCap) w' ∧ w'.heap = w.heap.push (.cells (old ++ news ++ zs).toArray e (0, 0)) ∧
      w'.os = w.os ∧ w'.tape = w.tape ∧ w'.output = w.output ∧ len + m ≤ newCap ∧ zs.length = (newCap - (len + m)) * sz := by
  obtain ⟨i, hi, hs, hby⟩ := hi
  obtain ⟨i', z, hi', hz1, hz2, hz3, _⟩ := hz
  rw [hi] at hi'; injection hi' with hi'; subst hi'
  have hfit := growslice_fits (need := len + m) (old := cap) (bytes := bytes) hgrow hbytes
  have hforce : (Question.appendCap (len + m) cap e).forced = false := rfl
  refine ⟨(Question.appendCap (len + m) cap e).cut (w.tape w.drawn (.appendCap (len + m) cap e)), (Builtin.zeroCells z.cells ((Question.appendCap (len + m) cap e).cut (w.tape w.drawn (.appendCap (len + m) cap e)) - (len + m))).toList,
    w.drew.alloc (.cells (old ++ news ++ (Builtin.zeroCells z.cells ((Question.appendCap (len + m) cap e).cut (w.tape w.drawn (.appendCap (len + m) cap e)) - (len + m))).toList).toArray e), ?_, rfl, rfl, rfl, rfl, ?_, ?_⟩
  · have h1 : ¬ (len + m ≤ cap) := by omega
    have h2 : ¬ (281474976710656 < Builtin.nextslicecap (len + m) cap * bytes) := by omega
    rcases hd with rfl | ⟨e', rfl⟩
    · simp [Builtin.append_, run_underlying ht, run_underlying ht', sizeOf, typeInfo, hi, hs, hby, hlen, h1, h2, hb0, hold, hnew, zeroValue, hz1, newRow, hforce]
      congr 2; apply Array.ext'; simp
    · simp [Builtin.append_, run_underlying ht, run_underlying ht', sizeOf, typeInfo, hi, hs, hby, hlen, h1, h2, hb0, hold, hnew, zeroValue, hz1, newRow, hforce]
      congr 2; apply Array.ext'; simp
  · simp only [Question.cut]; omega
  · simp [Builtin.zeroCells, hz3, hzl]

end
end Go.Vx

namespace Go.Vx
section
variable {P : Program} {c : Cx} {K : V → List (Nat × RowS) → Prop}

theorem setRows_one (rows : Rows) (h : Nat) (r : RowS) : setRows rows [(h, r)] = rows.set h r := rfl

theorem drew_src {sz : Nat} {u : Value} {es : List (List V)} {fl : List Value} (h : Src P c sz u es fl) (n : Nat) (hn : n ≤ es.length) :
    (Builtin.firstCells sz n u).run P c.w.drew = .ok (fl.take (n * sz)).toArray c.w.drew := h.2.2.2 c.w.drew (fun _ _ _ => rfl) n hn

theorem one_of_cont {sz : Nat} {es : List (List V)} {fl : List Value} (hl : fl.length = es.length * sz) (h : Cont c sz es fl.toArray) : ∀ v ∈ fl, v.oneCell' = true := by
  intro v hv
  obtain ⟨m, hm, rfl⟩ := List.getElem_of_mem hv
  rw [hl] at hm
  obtain ⟨h1, h2⟩ := mul_div_sz hm
  have h3 : es[m / sz]? = some (es[m / sz]'h1) := List.getElem?_eq_getElem h1
  obtain ⟨h4, h5⟩ := h.1 _ (List.mem_of_getElem? h3)
  have h6 : (es[m / sz]'h1)[m % sz]? = some ((es[m / sz]'h1)[m % sz]'(by omega)) := List.getElem?_eq_getElem _
  obtain ⟨x, hx, hr⟩ := h.2.2 _ _ _ _ h3 h6
  have h7 : m / sz * sz + m % sz = m := by rw [Nat.mul_comm]; exact Nat.div_add_mod m sz
  rw [h7] at hx
  simp only [List.getElem?_toArray] at hx
  have := (List.getElem?_eq_some_iff.1 hx).2
  rw [this]
  exact hr.one (h5 _ (List.mem_of_getElem? h6))

theorem res_append (ok : Ok c) {t t' ty e : TypeId} {sz bytes : Nat} {s x : Opd} {ev : Opd → V} {hf : Nat} {us ux : Value} {d : TypeDesc} {zero : List D} (hu : c.rows[hf]? = some .un)
    (ht : P.underlying t = some (.slice e)) (ht' : P.underlying t' = some d) (hd : d = .string ∨ ∃ e', d = .slice e') (hi : ∃ i, P.info? e = some i ∧ i.size = sz ∧ i.bytes = bytes) (hz : ZeroOf P e zero) (hzl : zero.length = sz)
    (hb0 : bytes ≠ 0) (hs0 : sz ≠ 0) (hrs : Rep c us (ev s)) (hrx : Rep c ux (ev x)) (h : opW (.append sz bytes s x) ev c.rows hf K) :
    Res c ((Builtin.append_ #[t, t'] ty #[us, ux]).run P c.w) K := by
  simp only [opW] at h
  obtain ⟨xs, fl, h, hsrc⟩ := src_of (P := P) ok hrx h
  have hlt : hf < c.rows.length := (List.getElem?_eq_some_iff.1 hu).1
  have hflen := hsrc.1
  have hfull : fl.take (xs.length * sz) = fl := List.take_of_length_le (by omega)
  have hnew := drew_src hsrc xs.length (Nat.le_refl _)
  rw [hfull] at hnew
  have hnew0 := hsrc.2.2.2 c.w (fun _ _ _ => rfl) xs.length (Nat.le_refl _)
  rw [hfull] at hnew0
  have hfits : ∀ (base : Option Addr) (len cap : Nat), len + xs.length ≤ cap →
      (Builtin.append_ #[t, t'] ty #[.slice base len cap, ux]).run P c.w =
        ((match base with | some a => storeCells (a.add (len * sz)) fl | none => pure ()).run P c.w).andThen fun _ w' => .ok (.slice base (len + xs.length) cap) w' := by
    intro base len cap hle
    obtain ⟨i, hi, hs, hby⟩ := hi
    rcases hd with rfl | ⟨e', rfl⟩ <;> cases base <;>
      simp [Builtin.append_, run_underlying ht, run_underlying ht', sizeOf, typeInfo, hi, hs, hsrc.2.2.1, hle, hnew0]
  -- a fresh block for the handle g
  have fresh : ∀ (g : Nat) (base : Option Addr) (len cap : Nat) (es : List (List V)) (old : List Value), cap < len + xs.length → (len + xs.length) * bytes ≤ maxBytes →
      (c.rows[g]? = some .un ∨ ∃ es0, c.rows[g]? = some (.live sz es0) ∧ es0.length < (es ++ xs).length) →
      es.length = len → old.length = es.length * sz → Cont c sz es old.toArray → (Builtin.firstCells sz len (.slice base len cap)).run P c.w.drew = .ok old.toArray c.w.drew →
      K (.osl sz g (len + xs.length) 0 (len + xs.length)) [(g, .live sz (es ++ xs))] → Res c ((Builtin.append_ #[t, t'] ty #[.slice base len cap, ux]).run P c.w) K := by
    intro g base len cap es old hgrow hby hg hel hol hco hold hk
    obtain ⟨newCap, zs, w', hrun, hheap, h1, h2, h3, h4, h5⟩ := run_append_grow (base := base) (ty := ty) (cap := cap) (news := fl) ht ht' hd hi hz hzl hb0 hsrc.2.2.1 hby hgrow hold hnew
    have hc2 := cont_cat (rest := zs) hol hflen hco hsrc.2.1
    have hal := alloc_ok ok g sz (es ++ xs) (old ++ fl ++ zs).toArray e (0, 0) hg (fun i _ => by simp) hc2 w' hheap h1 h2 h3
    have hglt : g < c.rows.length := by rcases hg with hg | ⟨_, hg, _⟩ <;> exact (List.getElem?_eq_some_iff.1 hg).1
    refine ⟨_, _, _, _, hk, hrun, hal.1, hal.2, rfl, ?_⟩
    refine .osl _ _ _ _ _ newCap c.w.heap.size 0 (es ++ xs) (old ++ fl ++ zs).toArray e (0, 0) (by simp [hglt]) (by simp [hel]) (by simp) (by rw [hheap]; simp) (.inl (by simp)) ?_ h4 (by omega)
    simp only [Nat.zero_add, List.size_toArray, List.length_append, hol, hflen, h5, hel]
    rw [← Nat.add_mul, ← Nat.add_mul, Nat.add_sub_cancel' h4]
    exact Nat.le_refl _
  split at h
  · rename_i e1; rw [e1] at hrs
    have := rep_nils hrs; subst this
    obtain ⟨hby, hk⟩ := h
    by_cases hx0 : xs = []
    · subst hx0
      have hv := virt_ok ok hf sz hu
      refine ⟨_, _, .slice none 0 0, _, hk, ?_, hv.1, hv.2, rfl, ?_⟩
      · rw [hfits none 0 0 (by simp)]; simp
      · exact .oslVirt _ _ (by simp [hlt]) (ok.rho_none (by simp [hu]))
    · have hpos : 0 < xs.length := List.length_pos_iff.2 hx0
      exact fresh hf none 0 0 [] [] (by omega) (by simpa using hby) (.inl hu) rfl (by simp) ⟨by simp, by simp, by simp⟩ (by simp [Builtin.firstCells]) (by simpa using hk)
  · rename_i s' g n off len e1; rw [e1] at hrs
    obtain ⟨rfl, rfl, rfl, hlive, hby, hk⟩ := h
    rcases rep_osl hrs hlive with ⟨rfl, rfl, -, -, hρ⟩ | ⟨cap, b, o, arr, ty', fz, rfl, hρ, hb, ho, hcap, hlc, hlen⟩
    · obtain ⟨es, hrow, hn⟩ := hlive
      have hes : es = [] := List.eq_nil_of_length_eq_zero hn
      subst hes
      by_cases hx0 : xs = []
      · subst hx0
        refine ⟨_, _, .slice none 0 0, c, hk _ hrow, ?_, ok, .refl c, ?_, ?_⟩
        · rw [hfits none 0 0 (by simp)]; simp
        · simp [setRows_one, set_same hrow]
        · exact .oslVirt _ _ hrow hρ
      · have hpos : 0 < xs.length := List.length_pos_iff.2 hx0
        exact fresh g none 0 0 [] [] (by omega) (by simpa using hby) (.inr ⟨[], hrow, by simpa using hpos⟩) rfl (by simp) ⟨by simp, by simp, by simp⟩ (by simp [Builtin.firstCells]) (by simpa using hk _ hrow)
    · obtain ⟨es, hrow, hn⟩ := hlive
      obtain ⟨arr', ty2, fz', hb', hfz, hc⟩ := row_cells ok hrow hρ
      rw [hb] at hb'; injection hb' with hb'; injection hb' with e1 e2 e3; subst e1 e2 e3
      have hk := hk _ hrow
      simp only [Nat.zero_add] at hcap
      by_cases hle : len + xs.length ≤ cap
      · have hone := one_of_cont hflen hsrc.2.1
        have hcz : cap ≠ 0 ∨ (len = 0 ∧ xs = []) := by
          by_cases h0 : cap = 0
          · exact .inr ⟨by omega, List.eq_nil_of_length_eq_zero (by omega)⟩
          · exact .inl h0
        have hfit2 : len * s' + fl.length ≤ arr.size := by
          have : (len + xs.length) * s' ≤ cap * s' := Nat.mul_le_mul_right _ hle
          rw [Nat.add_mul] at this
          omega
        have hes : es.length = len := hn
        have hco : Cont c s' (es ++ xs) (arr.toList.take (len * s') ++ fl ++ arr.toList.drop (len * s' + fl.length)).toArray := by
          refine cont_cat ?_ hflen ?_ hsrc.2.1
          · have hh := hc.2.1
            rw [hes] at hh ⊢
            rw [List.length_take, Nat.min_eq_left (by simpa using hh)]
          · have := cont_take hc es.length (Nat.le_refl _)
            rw [List.take_length, hes] at this
            exact this
        have hup := upd_ok ok g b s' es (es ++ xs) arr _ ty' fz hrow hρ hb hfz (by simp; omega) (by simp) hco
        rcases hcz with hcz | ⟨rfl, rfl⟩
        · have ho' := ho.resolve_right hcz
          simp only [Nat.zero_mul] at ho'
          subst ho'
          have hst := run_storeCells_fz (P := P) b (len * s') ty' fz fl 0 arr c.w hb hfz (by omega) hone
          simp only [Nat.add_zero] at hst
          refine ⟨_, _, .slice (some ⟨b, 0, none⟩) (len + xs.length) cap, _, hk, ?_, hup.1, hup.2, rfl, ?_⟩
          · rw [hfits _ _ _ hle]
            simp [add_off, hst]
          · have hglt : g < c.rows.length := (List.getElem?_eq_some_iff.1 hrow).1
            refine .osl _ _ _ _ _ cap b 0 (es ++ xs) _ ty' fz (by simp [hglt]) (by simp [hes]) hρ (setRow_heap _ _ _ _ _ _ hb) (.inl (by simp)) ?_ hle (by omega)
            simp only [Nat.zero_add, List.size_toArray]
            rw [splice_len _ _ _ (by simpa using hfit2)]
            simpa using hcap
        · simp only [List.append_nil] at hk
          have hfl : fl = [] := List.eq_nil_of_length_eq_zero (by simpa using hflen)
          subst hfl
          refine ⟨_, _, .slice (some ⟨b, o, none⟩) 0 cap, c, hk, ?_, ok, .refl c, ?_, ?_⟩
          · rw [hfits _ _ _ hle]
            simp [storeCells]
          · simp [setRows_one, set_same hrow]
          · exact .osl _ _ _ _ _ cap b o es arr ty' fz hrow hn hρ hb ho (by simpa using hcap) hlc hlen
      · have hcl : len ≤ cap := hlc
        have hes : es.length = len := hn
        refine fresh g (some ⟨b, o, none⟩) len cap es (arr.toList.take (len * s')) (by omega) hby (.inr ⟨es, hrow, by simp; omega⟩) hes ?_ ?_ ?_ hk
        · have hh := hc.2.1
          rw [hes] at hh ⊢
          rw [List.length_take, Nat.min_eq_left (by simpa using hh)]
        · have := cont_take hc es.length (Nat.le_refl _)
          rw [List.take_length, hes] at this
          exact this
        · have h0 := hc.2.1
          rw [hes] at h0
          have hl := run_loadRow (P := P) (w := c.w.drew) b o (len * s') (fun m => arr.getD m undef) (fun m hm => by
            have hcz : cap ≠ 0 := by
              intro hz
              have : len = 0 := by omega
              subst this
              simp at hm
            have ho' := ho.resolve_right hcz
            simp only [Nat.zero_mul] at ho'
            subst ho'
            rw [World.cell?_drew, cell_of hb]
            simp [Array.getD_eq_getD_getElem?, show m < arr.size by omega])
          simp only [Builtin.firstCells, hl]
          congr 2
          apply List.ext_getElem?
          intro m
          by_cases hm : m < len * s'
          · simp [hm, Array.getD_eq_getD_getElem?, show m < arr.size by omega]
          · rw [List.getElem?_eq_none (by simp; omega), List.getElem?_eq_none (by simp; omega)]
  · exact h.elim

end
end Go.Vx

namespace Go.Vx
section
variable {P : Program} {c : Cx} {K : V → List (Nat × RowS) → Prop}

theorem foldl_set_get (off : Nat) : ∀ (l : List Value) (k : Nat) (cells : Array Value) (m : Nat),
    ((l.zipIdx k).foldl (fun (cs : Array Value) (x : Value × Nat) => cs.setIfInBounds (off + x.2) x.1) cells)[m]? =
      if off + k ≤ m ∧ m < off + k + l.length ∧ m < cells.size then l[m - (off + k)]? else cells[m]?
  | [], k, cells, m => by simp; intro h1 h2; omega
  | v :: l, k, cells, m => by
    simp only [List.zipIdx_cons, List.foldl_cons]
    rw [foldl_set_get off l (k + 1)]
    simp only [Array.size_setIfInBounds, List.length_cons]
    by_cases h1 : m = off + k
    · subst h1
      rw [if_neg (by omega)]
      by_cases h2 : off + k < cells.size
      · rw [if_pos (by omega)]; simp [h2]
      · rw [if_neg (by omega)]; simp [h2]
    · by_cases h2 : off + (k + 1) ≤ m ∧ m < off + (k + 1) + l.length ∧ m < cells.size
      · rw [if_pos h2, if_pos (by omega), show m - (off + k) = (m - (off + (k + 1))) + 1 by omega]
        rfl
      · rw [if_neg h2, if_neg (by omega)]
        rw [Array.getElem?_setIfInBounds_ne (by omega)]

theorem foldl_set_arr (off : Nat) (v : Value) (cells : Array Value) :
    v.cells.zipIdx.foldl (fun cs (x : Value × Nat) => cs.setIfInBounds (off + x.2) x.1) cells =
      (v.cells.toList.zipIdx).foldl (fun (cs : Array Value) (x : Value × Nat) => cs.setIfInBounds (off + x.2) x.1) cells := by
  rw [← Array.foldl_toList, Array.toList_zipIdx]

theorem foldl_set_size (off : Nat) : ∀ (l : List Value) (k : Nat) (cells : Array Value),
    ((l.zipIdx k).foldl (fun (cs : Array Value) (x : Value × Nat) => cs.setIfInBounds (off + x.2) x.1) cells).size = cells.size
  | [], k, cells => rfl
  | v :: l, k, cells => by simp only [List.zipIdx_cons, List.foldl_cons]; rw [foldl_set_size]; simp

/-- One part laid over the cells. -/
theorem repL_setR {cells : Array Value} {vs : List V} (h : RepL c cells.toList vs) {off : Nat} {us : List Value} {cs : List V} (hl : RepL c us cs) (hfit : off + cs.length ≤ vs.length) :
    RepL c ((us.zipIdx).foldl (fun (a : Array Value) (x : Value × Nat) => a.setIfInBounds (off + x.2) x.1) cells).toList (setR vs off cs) := by
  have hlen : (setR vs off cs).length = vs.length := splice_len vs cs off hfit
  have hcs : cells.size = vs.length := by have := h.1; simpa using this
  refine ⟨by rw [hlen, Array.length_toList, foldl_set_size, hcs], fun j v x h1 h2 => ?_⟩
  rw [Array.getElem?_toList, foldl_set_get] at h2
  simp only [setR] at h1
  rw [splice_get vs cs off j hfit] at h1
  simp only [Nat.add_zero, hl.1, hcs] at h2
  by_cases h3 : j < off
  · rw [if_pos h3] at h1
    rw [if_neg (by omega)] at h2
    exact h.2 j v x h1 (by simpa using h2)
  · rw [if_neg h3] at h1
    by_cases h4 : j < off + cs.length
    · rw [if_pos h4] at h1
      rw [if_pos (by omega)] at h2
      exact hl.2 _ v x h1 h2
    · rw [if_neg h4] at h1
      rw [if_neg (by omega)] at h2
      exact h.2 j v x h1 (by simpa using h2)

theorem fill_parts {ev : Opd → V} {place : Nat → Option (Nat × Nat)} : ∀ (ps : List (Nat × Nat × Opd)) (ps' : List (Nat × Value)) (cells : Array Value) (vs : List V) (K' : List V → Prop),
    RepL c cells.toList vs → ps.length = ps'.length → (∀ (k : Nat) (p : Nat × Nat × Opd) (p' : Nat × Value), ps[k]? = some p → ps'[k]? = some p' → place p'.1 = some (p.1, p.2.1) ∧ Rep c p'.2 (ev p.2.2)) →
    partsW ev ps vs K' → ∃ cells' vs', Instr.fill place cells ps' = some cells' ∧ RepL c cells'.toList vs' ∧ K' vs'
  | [], ps', cells, vs, K', h, hl, _, hk => by
    have : ps' = [] := List.eq_nil_of_length_eq_zero (by simpa using hl.symm)
    subst this
    exact ⟨cells, vs, rfl, h, hk⟩
  | (off, sz, x) :: ps, ps', cells, vs, K', h, hl, hp, hk => by
    cases ps' with
    | nil => simp at hl
    | cons p' ps' =>
      obtain ⟨i, u⟩ := p'
      obtain ⟨hpl, hr⟩ := hp 0 _ _ rfl rfl
      simp only at hpl hr
      obtain ⟨hfit, hk⟩ := hk
      obtain ⟨cs, hcl, ho, hrl, hk⟩ := cells_of hr hk
      have hcs : cells.size = vs.length := by have := h.1; simpa using this
      have hus : u.cells.size = sz := by have := hrl.1; simp at this; omega
      obtain ⟨cells', vs', e1, e2, e3⟩ := fill_parts ps ps' _ _ K' (repL_setR h hrl (by omega)) (by simpa using hl) (fun k p p' h1 h2 => hp (k + 1) p p' (by simpa using h1) (by simpa using h2)) hk
      refine ⟨cells', vs', ?_, e2, e3⟩
      simp only [Instr.fill, hpl]
      have hcond : ¬ ((decide (u.cells.size ≠ sz) || decide (off + u.cells.size > cells.size)) = true) := by simp; omega
      rw [if_neg hcond, foldl_set_arr]
      exact e1

theorem run_places {w : World} (f : Field → Nat) : ∀ (l : List Field), (∀ x ∈ l, SzOf P x.type (f x)) →
    (l.mapM fun x => (do pure (x.offset, ← sizeOf x.type) : Sem (Nat × Nat))).run P w = .ok (l.map fun x => (x.offset, f x)) w
  | [], _ => rfl
  | x :: l, h => by
    have h1 := run_sizeOf' (h x (by simp)) w
    have ih := run_places (w := w) f l (fun y hy => h y (by simp [hy]))
    simp only [bind_pure_comp] at ih
    simp [List.mapM_cons, h1, ih]

theorem res_build (ok : Ok c) {t : TypeId} {zero : List D} {ps : List (Nat × Nat × Opd)} {ps' : Array (Nat × Value)} {ev : Opd → V} {hf : Nat} {fs : Array Field} {f : Field → Nat} (ht : P.underlying t = some (.struct fs)) (hz : ZeroOf P t zero)
    (hfs : ∀ x ∈ fs.toList, SzOf P x.type (f x)) (hlen : ps.length = ps'.size)
    (hp : ∀ (k : Nat) (p : Nat × Nat × Opd) (p' : Nat × Value), ps[k]? = some p → ps'[k]? = some p' → (∃ x, fs[p'.1]? = some x ∧ p.1 = x.offset ∧ p.2.1 = f x) ∧ Rep c p'.2 (ev p.2.2)) (h : opW (.build zero ps) ev c.rows hf K) :
    Res c ((Instr.build t ps').run P c.w) K := by
  simp only [opW] at h
  obtain ⟨i, z, hi, hz1, hz2, hz3, hz4⟩ := hz
  have h0 : RepL c z.cells.toList (zero.map .d) := repL_zero (by simpa using hz3) (fun j v x h1 h2 => hz4 j v x h1 (by simpa using h2))
  obtain ⟨cells', vs', e1, e2, e3⟩ := fill_parts (place := fun k => (fs.map fun x => (x.offset, f x))[k]?) ps ps'.toList z.cells _ _ h0 (by simpa using hlen) (fun k p p' h1 h2 => by
    obtain ⟨⟨x, hx, h3, h4⟩, h5⟩ := hp k p p' h1 (by simpa using h2)
    exact ⟨by simp [hx, h3, h4], h5⟩) h
  refine Res.same ok e3 (u := .agg cells') ?_ (.agg _ _ (by simpa using e2.1) (fun j v x h1 h2 => e2.2 j v x h1 (by simpa using h2)))
  have hm : (fs.mapM fun x => (do pure (x.offset, ← sizeOf x.type) : Sem (Nat × Nat))).run P c.w = .ok (fs.map fun x => (x.offset, f x)) c.w := by
    rw [Array.mapM_eq_mapM_toList]
    have := run_places (P := P) (w := c.w) f fs.toList hfs
    simp only [bind_pure_comp] at this
    simp [this]
    apply Array.ext'
    simp
  simp only [bind_pure_comp] at hm
  simp only [Array.getElem?_map] at e1
  simp [Instr.build, zeroValue, typeInfo, hi, hz1, run_underlying ht, hm, e1]

theorem res_buildA (ok : Ok c) {t e : TypeId} {n sz : Nat} {zero : List D} {ps : List (Nat × Nat × Opd)} {ps' : Array (Nat × Value)} {ev : Opd → V} {hf : Nat} (ht : P.underlying t = some (.array n e)) (hz : ZeroOf P t zero)
    (hs : SzOf P e sz) (hlen : ps.length = ps'.size)
    (hp : ∀ (k : Nat) (p : Nat × Nat × Opd) (p' : Nat × Value), ps[k]? = some p → ps'[k]? = some p' → (p.1 = p'.1 * sz ∧ p.2.1 = sz) ∧ Rep c p'.2 (ev p.2.2)) (h : opW (.build zero ps) ev c.rows hf K) :
    Res c ((Instr.build t ps').run P c.w) K := by
  simp only [opW] at h
  obtain ⟨i, z, hi, hz1, hz2, hz3, hz4⟩ := hz
  have h0 : RepL c z.cells.toList (zero.map .d) := repL_zero (by simpa using hz3) (fun j v x h1 h2 => hz4 j v x h1 (by simpa using h2))
  obtain ⟨cells', vs', e1, e2, e3⟩ := fill_parts (place := fun k => some (k * sz, sz)) ps ps'.toList z.cells _ _ h0 (by simpa using hlen) (fun k p p' h1 h2 => by
    obtain ⟨⟨h3, h4⟩, h5⟩ := hp k p p' h1 (by simpa using h2)
    exact ⟨by simp [h3, h4], h5⟩) h
  refine Res.same ok e3 (u := .agg cells') ?_ (.agg _ _ (by simpa using e2.1) (fun j v x h1 h2 => e2.2 j v x h1 (by simpa using h2)))
  simp [Instr.build, zeroValue, typeInfo, hi, hz1, run_underlying ht, run_sizeOf' hs, e1]

/-- The cells of n zero elements. -/
def zcells (z : Array Value) (n : Nat) : Array Value := (Array.range n).map (z[· % z.size]!)

theorem cont_zero {z : Array Value} {zero : List D} {sz n : Nat} (hzl : zero.length = sz) (hz3 : z.size = sz) (hs0 : sz ≠ 0)
    (hz4 : ∀ (j : Nat) (v : D) (x : Value), zero[j]? = some v → z[j]? = some x → RepD (fun _ => False) default x v) (m : Nat) (hm : n * sz ≤ m) :
    Cont c sz (List.replicate n (zero.map .d)) (zcells z m) := by
  refine ⟨fun e he => ?_, by simp [zcells]; exact hm, fun i e j v h1 h2 => ?_⟩
  · obtain ⟨_, rfl⟩ := List.mem_replicate.1 he
    exact ⟨by simpa using hzl, map_d_one zero⟩
  · rw [List.getElem?_replicate] at h1
    split at h1
    · rename_i hi
      injection h1 with h1; subst h1
      simp only [List.getElem?_map] at h2
      obtain ⟨d, hd, rfl⟩ := Option.map_eq_some_iff.1 h2
      have hj : j < sz := by have := (List.getElem?_eq_some_iff.1 hd).1; omega
      have hlt := mul_lt_of (sz := sz) hi hj
      have hx : z[j]? = some (z[j]'(by omega)) := Array.getElem?_eq_getElem _
      refine ⟨z[j]'(by omega), ?_, .d _ _ ((hz4 j d _ hd hx).mono (fun _ h => h.elim) (fun _ h => h.elim))⟩
      simp only [zcells, Array.getElem?_map]
      rw [Array.getElem?_eq_getElem (by simp; omega)]
      simp only [Array.getElem_range, hz3, (idx_div hj).2, Option.map_some]
      rw [getElem!_pos z j (by omega)]
    · cases h1

theorem fill_sl {ev : Opd → V} {sz : Nat} : ∀ (ps : List (Nat × Opd)) (ps' : List (Nat × Value)) (cells : Array Value) (es : List (List V)) (K' : List (List V) → Prop),
    cells.size = es.length * sz → Cont c sz es cells → ps.length = ps'.length → (∀ (k : Nat) (p : Nat × Opd) (p' : Nat × Value), ps[k]? = some p → ps'[k]? = some p' → p'.1 = p.1 ∧ Rep c p'.2 (ev p.2)) →
    partsSl ev sz ps es K' → ∃ cells' es', Instr.fill (fun i => some (i * sz, sz)) cells ps' = some cells' ∧ cells'.size = es'.length * sz ∧ es'.length = es.length ∧ Cont c sz es' cells' ∧ K' es'
  | [], ps', cells, es, K', hsz, h, hl, _, hk => by
    have : ps' = [] := List.eq_nil_of_length_eq_zero (by simpa using hl.symm)
    subst this
    exact ⟨cells, es, rfl, hsz, rfl, h, hk⟩
  | (i, x) :: ps, ps', cells, es, K', hsz, h, hl, hp, hk => by
    cases ps' with
    | nil => simp at hl
    | cons p' ps' =>
      obtain ⟨i', u⟩ := p'
      obtain ⟨hpl, hr⟩ := hp 0 _ _ rfl rfl
      simp only at hpl hr
      subst hpl
      obtain ⟨hi, hk⟩ := hk
      obtain ⟨cs, hcl, ho, hrl, hk⟩ := cells_of hr hk
      have he : es[i']? = some (es[i']'hi) := List.getElem?_eq_getElem hi
      have hel := (h.1 _ (List.mem_of_getElem? he)).1
      have hus : u.cells.size = sz := by have := hrl.1; simp at this; omega
      have hfit : i' * sz + sz ≤ cells.size := by
        have h2 : (i' + 1) * sz ≤ es.length * sz := Nat.mul_le_mul_right _ hi
        rw [Nat.succ_mul] at h2
        omega
      have hco := cont_set h he (off := 0) (by omega) hrl ho
      have hsr : setR (es[i']'hi) 0 cs = cs := by simp [setR]; omega
      rw [hsr] at hco
      have harr : ((u.cells.toList.zipIdx).foldl (fun (a : Array Value) (x : Value × Nat) => a.setIfInBounds (i' * sz + x.2) x.1) cells) =
          (cells.toList.take (i' * sz + 0) ++ u.cells.toList ++ cells.toList.drop (i' * sz + 0 + u.cells.toList.length)).toArray := by
        apply Array.ext_getElem?
        intro m
        have hml : u.cells.toList.length = sz := by simpa using hus
        rw [foldl_set_get, List.getElem?_toArray (xs := _ ++ _), splice_get _ _ _ _ (by rw [hml]; simpa using hfit), hml]
        by_cases h3 : m < i' * sz
        · rw [if_neg (by omega), if_pos (by omega)]; simp
        · by_cases h4 : m < i' * sz + sz
          · rw [if_pos (by omega), if_neg (by omega), if_pos (by omega)]
          · rw [if_neg (by omega), if_neg (by omega), if_neg (by omega)]; simp
      rw [← harr] at hco
      obtain ⟨cells', es', e1, e2, e3, e4, e5⟩ := fill_sl ps ps' _ _ K' (by rw [foldl_set_size, hsz, List.length_set]) hco (by simpa using hl) (fun k p p' h1 h2 => hp (k + 1) p p' (by simpa using h1) (by simpa using h2)) hk
      refine ⟨cells', es', ?_, e2, by simpa using e3, e4, e5⟩
      simp only [Instr.fill]
      have hcond : ¬ ((decide (u.cells.size ≠ sz) || decide (i' * sz + u.cells.size > cells.size)) = true) := by simp; omega
      rw [if_neg hcond, foldl_set_arr]
      exact e1

theorem res_buildSl (ok : Ok c) {t e : TypeId} {sz len : Nat} {zero : List D} {ps : List (Nat × Opd)} {ps' : Array (Nat × Value)} {ev : Opd → V} {hf : Nat} (hu : c.rows[hf]? = some .un) (ht : P.underlying t = some (.slice e)) (hz : ZeroOf P e zero)
    (hzl : zero.length = sz) (hs0 : sz ≠ 0) (hmax : len * sz ≤ 16777216) (hlen : ps.length = ps'.size)
    (hp : ∀ (k : Nat) (p : Nat × Opd) (p' : Nat × Value), ps[k]? = some p → ps'[k]? = some p' → p'.1 = p.1 ∧ Rep c p'.2 (ev p.2)) (h : opW (.buildSl sz len zero ps) ev c.rows hf K) :
    Res c ((Instr.buildSlice t len ps').run P c.w) K := by
  simp only [opW] at h
  obtain ⟨i, z, hi, hz1, hz2, hz3, hz4⟩ := hz
  have hlt : hf < c.rows.length := (List.getElem?_eq_some_iff.1 hu).1
  have h0 := cont_zero (c := c) (n := len) hzl (by omega) hs0 hz4 (len * sz) (Nat.le_refl _)
  obtain ⟨cells', es', e1, e2, e3, e4, e5⟩ := fill_sl ps ps'.toList (zcells z.cells (len * sz)) _ _ (by simp [zcells]) h0 (by simpa using hlen) (fun k p p' h1 h2 => hp k p p' h1 (by simpa using h2)) h
  simp only [List.length_replicate] at e3
  have hal := alloc_ok ok hf sz es' cells' e (0, 0) (.inl hu) (fun i _ => by simp) e4 (c.w.alloc (.cells cells' e)) rfl rfl rfl rfl
  refine ⟨_, _, .slice (some ⟨c.w.heap.size, 0, none⟩) len len, _, e5, ?_, hal.1, hal.2, rfl, ?_⟩
  · have hsz : (sizeOf e).run P c.w = .ok sz c.w := run_sizeOf' ⟨i, hi, by omega⟩ _
    have h1 : ¬ (16777216 < len * sz) := by omega
    have hcells : (Array.range (len * sz)).map (fun x => z.cells[x % z.cells.size]!) = zcells z.cells (len * sz) := rfl
    by_cases hl0 : len * sz = 0
    · have : zcells z.cells (len * sz) = #[] := by rw [hl0]; simp [zcells, Array.range_zero']
      rw [this] at e1
      simp [Instr.buildSlice, run_underlying ht, hsz, hl0, e1, newRow, Array.range_zero']
    · simp [Instr.buildSlice, run_underlying ht, hsz, h1, hl0, zeroValue, typeInfo, hi, hz1, hcells, e1, newRow]
  · refine .osl _ _ _ _ _ len c.w.heap.size 0 es' cells' e (0, 0) (by simp [hlt]) e3 (by simp) (push_new rfl) (.inl (by simp)) (by rw [e2, e3]; simp) (Nat.le_refl _) (by omega)

theorem res_mksl (ok : Ok c) {t e : TypeId} {sz bytes : Nat} {zero : List D} {l k : Opd} {ev : Opd → V} {hf : Nat} {ul uk : Value} (hu : c.rows[hf]? = some .un) (ht : P.underlying t = some (.slice e)) (hz : ZeroOf P e zero)
    (hb : ∃ i, P.info? e = some i ∧ i.bytes = bytes) (hzl : zero.length = sz) (hs0 : sz ≠ 0) (hl : Rep c ul (ev l)) (hk : Rep c uk (ev k)) (h : opW (.mksl sz bytes zero l k) ev c.rows hf K) :
    Res c ((Instr.makeSlice t ul uk).run P c.w) K := by
  simp only [opW] at h
  obtain ⟨k1, n, rfl, h1⟩ := int_of hl h
  obtain ⟨k2, m, rfl, h2⟩ := int_of hk h1
  obtain ⟨h3, h4, h5, h6, hK⟩ := h2
  obtain ⟨i, z, hi, hz1, hz2, hz3, hz4⟩ := hz
  obtain ⟨i', hi', hbb⟩ := hb
  rw [hi] at hi'; injection hi' with hi'; subst hi'
  have hlt : hf < c.rows.length := (List.getElem?_eq_some_iff.1 hu).1
  have hrun := run_make (P := P) c.w t e i z ht hi hz1 k1 k2 n m h3 h4 (by rw [hbb]; exact h6) h5
  have hsz : i.size = sz := by omega
  have h0 := cont_zero (c := c) (n := n.toNat) hzl (by omega) hs0 hz4 (m.toNat * sz) (Nat.mul_le_mul_right _ (by omega))
  have hal := alloc_ok ok hf sz _ (zcells z.cells (m.toNat * sz)) e (0, 0) (.inl hu) (fun i _ => by simp) h0 (c.w.alloc (.cells (zcells z.cells (m.toNat * sz)) e)) rfl rfl rfl rfl
  refine ⟨_, _, .slice (some ⟨c.w.heap.size, 0, none⟩) n.toNat m.toNat, _, hK, ?_, hal.1, hal.2, rfl, ?_⟩
  · rw [hrun, hsz]; rfl
  · refine .osl _ _ _ _ _ m.toNat c.w.heap.size 0 (List.replicate n.toNat (zero.map .d)) (zcells z.cells (m.toNat * sz)) e (0, 0) (by simp [hlt]) (by simp) (by simp) (push_new rfl) (.inl (by simp)) (by simp [zcells]) (by omega) (by omega)

end
end Go.Vx

namespace Go.Vx
section
variable {P : Program} {c : Cx} {K : V → List (Nat × RowS) → Prop}

theorem res_copy (ok : Ok c) {t t' ty e : TypeId} {sz : Nat} {d s : Opd} {ev : Opd → V} {hf : Nat} {ud us : Value} (ht : P.underlying t = some (.slice e)) (hs : SzOf P e sz)
    (hrd : Rep c ud (ev d)) (hrs : Rep c us (ev s)) (h : opW (.copy sz d s) ev c.rows hf K) : Res c ((Builtin.copy_ #[t, t'] ty #[ud, us]).run P c.w) K := by
  simp only [opW] at h
  obtain ⟨xs, fl, h, hsrc⟩ := src_of (P := P) ok hrs h
  have hrun : ∀ (base : Option Addr) (len cap : Nat),
      (Builtin.copy_ #[t, t'] ty #[.slice base len cap, us]).run P c.w =
        ((match base with | some a => storeCells a (fl.take (min xs.length len * sz)) | none => pure ()).run P c.w).andThen fun _ w' => .ok (.int .i64 (min xs.length len : Nat)) w' := by
    intro base len cap
    have hf := hsrc.2.2.2 c.w (fun _ _ _ => rfl) (min xs.length len) (Nat.min_le_left _ _)
    have hf' : (Builtin.firstCells sz (xs.length.min len) us).run P c.w = .ok (fl.take (min xs.length len * sz)).toArray c.w := hf
    cases base <;> simp [Builtin.copy_, run_underlying ht, hsrc.2.2.1, run_sizeOf' hs, hf', goInt]
    all_goals rfl
  split at h
  · rename_i e1; rw [e1] at hrd
    have := rep_nils hrd; subst this
    refine Res.same ok h ?_ (mk_int _ _)
    rw [hrun]; simp
  · rename_i s' g n off len e1; rw [e1] at hrd
    obtain ⟨rfl, hlive, hk⟩ := h
    have hflen := hsrc.1
    rcases rep_osl hrd hlive with ⟨rfl, rfl, rfl, rfl, hρ⟩ | ⟨cap, b, o, arr, ty', fz, rfl, hρ, hb, ho, hcap, hlc, hlen⟩
    · obtain ⟨es, hrow, hn⟩ := hlive
      have hes : es = [] := List.eq_nil_of_length_eq_zero hn
      subst hes
      refine ⟨_, _, .int .i64 0, c, hk _ hrow, ?_, ok, .refl c, ?_, ?_⟩
      · rw [hrun]; simp
      · simp [setRows_one, set_same hrow]
      · simpa using mk_int .i64 0
    · obtain ⟨es, hrow, hn⟩ := hlive
      obtain ⟨arr', ty2, fz', hb', hfz, hc⟩ := row_cells ok hrow hρ
      rw [hb] at hb'; injection hb' with hb'; injection hb' with e1 e2 e3; subst e1 e2 e3
      have hk := hk _ hrow
      have hm : (xs.take len).length = min xs.length len := by rw [List.length_take, Nat.min_comm]
      have hcf : Cont c s' (xs.take len) (fl.take (min xs.length len * s')).toArray := by
        have := cont_take hsrc.2.1 (min xs.length len) (Nat.min_le_left _ _)
        have e : xs.take (min xs.length len) = xs.take len := by
          rcases Nat.le_total xs.length len with h | h
          · rw [Nat.min_eq_left h, List.take_of_length_le (Nat.le_refl _), List.take_of_length_le h]
          · rw [Nat.min_eq_right h]
        rw [e] at this
        simpa using this
      have hfl : (fl.take (min xs.length len * s')).length = (xs.take len).length * s' := by
        rw [List.length_take, hm, hflen]
        exact Nat.min_eq_left (Nat.mul_le_mul_right _ (Nat.min_le_left _ _))
      have hfit : off * s' + (fl.take (min xs.length len * s')).length ≤ arr.size := by
        have h1 := hc.2.1
        have h2 : (off + min xs.length len) * s' ≤ es.length * s' := Nat.mul_le_mul_right _ (by omega)
        rw [Nat.add_mul] at h2
        rw [hfl, hm]; omega
      have hsz := hc.2.1
      have hco : Cont c s' (es.take off ++ xs.take len ++ es.drop (off + min xs.length len))
          (arr.toList.take (off * s') ++ fl.take (min xs.length len * s') ++ arr.toList.drop (off * s' + (fl.take (min xs.length len * s')).length)).toArray := by
        have hA := cont_take hc off (by omega)
        have hD := cont_drop hc (off + min xs.length len) (by omega)
        have hmul : off * s' ≤ es.length * s' := Nat.mul_le_mul_right _ (by omega)
        have hAl : (arr.toList.take (off * s')).length = (es.take off).length * s' := by
          rw [List.length_take, List.length_take, Nat.min_eq_left (by rw [Array.length_toList]; omega), Nat.min_eq_left (by omega)]
        have h12 := cont_cat (rest := []) hAl hfl hA hcf
        simp only [List.append_nil] at h12
        rw [Nat.add_mul] at hD
        have hdr : off * s' + (fl.take (min xs.length len * s')).length = off * s' + min xs.length len * s' := by rw [hfl, hm]
        rw [hdr]
        -- the rest beyond the row's elements
        have hDl : ∃ D rest, arr.toList.drop (off * s' + min xs.length len * s') = D ++ rest ∧ D.length = (es.drop (off + min xs.length len)).length * s' ∧ Cont c s' (es.drop (off + min xs.length len)) D.toArray := by
          have hdl : ((es.drop (off + min xs.length len)).length * s') ≤ (arr.toList.drop (off * s' + min xs.length len * s')).length := by
            rw [List.length_drop, List.length_drop, Array.length_toList (xs := arr), Nat.sub_mul, Nat.add_mul]; omega
          refine ⟨(arr.toList.drop (off * s' + min xs.length len * s')).take ((es.drop (off + min xs.length len)).length * s'), _, (List.take_append_drop _ _).symm, by rw [List.length_take, Nat.min_eq_left hdl], ?_⟩
          have := cont_take hD (es.drop (off + min xs.length len)).length (Nat.le_refl _)
          rw [List.take_length] at this
          simpa using this
        obtain ⟨D, rest, hd1, hd2, hd3⟩ := hDl
        rw [hd1, ← List.append_assoc]
        refine cont_cat (rest := rest) ?_ hd2 h12 hd3
        rw [List.length_append, List.length_append, hAl, hfl, Nat.add_mul]
      have hlen' : (es.take off ++ xs.take len ++ es.drop (off + min xs.length len)).length = es.length := by
        simp only [List.length_append, List.length_take, List.length_drop]; omega
      have hup := upd_ok ok g b s' es _ arr _ ty' fz hrow hρ hb hfz (by rw [List.size_toArray, splice_len _ _ _ (by simpa using hfit), Array.length_toList]) (by rw [hlen']; exact Nat.le_refl _) hco
      by_cases hcz : cap = 0
      · have hl0 : len = 0 := by omega
        have hsame : es.take off ++ xs.take len ++ es.drop (off + min xs.length len) = es := by rw [hl0]; simp
        refine ⟨_, _, .int .i64 (min xs.length len : Nat), c, hk, ?_, ok, .refl c, ?_, mk_int _ _⟩
        · rw [hrun, hl0]; simp [storeCells]
        · rw [setRows_one, hsame, set_same hrow]
      · have ho' := ho.resolve_right hcz
        subst ho'
        have hone := one_of_cont hfl hcf
        have hst := run_storeCells_fz (P := P) b (off * s') ty' fz (fl.take (min xs.length len * s')) 0 arr c.w hb hfz (by omega) hone
        simp only [Nat.add_zero] at hst
        refine ⟨_, _, .int .i64 (min xs.length len : Nat), _, hk, ?_, hup.1, hup.2, rfl, mk_int _ _⟩
        rw [hrun]
        simp [hst]
  · exact h.elim

theorem res_clr (ok : Ok c) {t ty e : TypeId} {sz : Nat} {zero : List D} {x : Opd} {ev : Opd → V} {hf : Nat} {ux : Value} (ht : P.underlying t = some (.slice e)) (hz : ZeroOf P e zero) (hzl : zero.length = sz) (hs0 : sz ≠ 0)
    (hr : Rep c ux (ev x)) (h : opW (.clr sz zero x) ev c.rows hf K) : Res c ((Builtin.clear_ #[t] ty #[ux]).run P c.w) K := by
  obtain ⟨i, z, hi, hz1, hz2, hz3, hz4⟩ := hz
  simp only [opW] at h
  split at h
  · rename_i s' g n off len e1; rw [e1] at hr
    obtain ⟨rfl, hlive, hlo, hk⟩ := h
    have hmk : ∀ c' : Cx, Rep c' (.tuple #[]) (.tup []) := fun c' => .tup _ _ rfl (fun j v x h1 => by simp at h1)
    rcases rep_osl hr hlive with ⟨rfl, rfl, rfl, rfl, hρ⟩ | ⟨cap, b, o, arr, ty', fz, rfl, hρ, hb, ho, hcap, hlc, hlen⟩
    · obtain ⟨es, hrow, hn⟩ := hlive
      have hes : es = [] := List.eq_nil_of_length_eq_zero hn
      subst hes
      refine ⟨_, _, .tuple #[], c, hk _ hrow, ?_, ok, .refl c, ?_, hmk _⟩
      · simp [Builtin.clear_, run_underlying ht]
      · simp [setRows_one, set_same hrow]
    · obtain ⟨es, hrow, hn⟩ := hlive
      obtain ⟨arr', ty2, fz', hb', hfz, hc⟩ := row_cells ok hrow hρ
      rw [hb] at hb'; injection hb' with hb'; injection hb' with e1 e2 e3; subst e1 e2 e3
      have hk := hk _ hrow
      by_cases hl0 : len = 0
      · subst hl0
        have hsame : es.take off ++ List.replicate 0 (zero.map .d) ++ es.drop (off + 0) = es := by simp
        refine ⟨_, _, .tuple #[], c, hk, ?_, ok, .refl c, ?_, hmk _⟩
        · simp [Builtin.clear_, run_underlying ht]
        · rw [setRows_one, hsame, set_same hrow]
      · have hsz0 : z.cells.size = s' := by rw [← hzl]; omega
        have hcf0 := cont_zero (c := c) (n := len) hzl hsz0 hs0 hz4 (len * s') (Nat.le_refl _)
        obtain ⟨fl, hfd⟩ : ∃ fl, fl = (zcells z.cells (len * s')).toList := ⟨_, rfl⟩
        have hcf : Cont c s' (List.replicate len (zero.map .d)) fl.toArray := by rw [hfd]; simpa using hcf0
        have hfl : fl.length = len * s' := by rw [hfd]; simp [zcells]
        have hsz := hc.2.1
        have hfit : off * s' + fl.length ≤ arr.size := by
          have h2 : (off + len) * s' ≤ es.length * s' := Nat.mul_le_mul_right _ (by omega)
          rw [Nat.add_mul] at h2
          rw [hfl]; omega
        have hco : Cont c s' (es.take off ++ List.replicate len (zero.map .d) ++ es.drop (off + len))
            (arr.toList.take (off * s') ++ fl ++ arr.toList.drop (off * s' + fl.length)).toArray := by
          have hA := cont_take hc off (by omega)
          have hD := cont_drop hc (off + len) (by omega)
          have hmul : off * s' ≤ es.length * s' := Nat.mul_le_mul_right _ (by omega)
          have hAl : (arr.toList.take (off * s')).length = (es.take off).length * s' := by
            rw [List.length_take, List.length_take, Nat.min_eq_left (by rw [Array.length_toList]; omega), Nat.min_eq_left (by omega)]
          have h12 := cont_cat (rest := []) hAl (by rw [hfl, List.length_replicate]) hA hcf
          simp only [List.append_nil] at h12
          rw [Nat.add_mul] at hD
          rw [hfl]
          have hDl : ∃ D rest, arr.toList.drop (off * s' + len * s') = D ++ rest ∧ D.length = (es.drop (off + len)).length * s' ∧ Cont c s' (es.drop (off + len)) D.toArray := by
            have hdl : ((es.drop (off + len)).length * s') ≤ (arr.toList.drop (off * s' + len * s')).length := by
              rw [List.length_drop, List.length_drop, Array.length_toList (xs := arr), Nat.sub_mul, Nat.add_mul]; omega
            refine ⟨(arr.toList.drop (off * s' + len * s')).take ((es.drop (off + len)).length * s'), _, (List.take_append_drop _ _).symm, by rw [List.length_take, Nat.min_eq_left hdl], ?_⟩
            have := cont_take hD (es.drop (off + len)).length (Nat.le_refl _)
            rw [List.take_length] at this
            simpa using this
          obtain ⟨D, rest, hd1, hd2, hd3⟩ := hDl
          rw [hd1, ← List.append_assoc]
          refine cont_cat (rest := rest) ?_ hd2 h12 hd3
          rw [List.length_append, List.length_append, hAl, hfl, Nat.add_mul, List.length_replicate]
        have hlen' : (es.take off ++ List.replicate len (zero.map V.d) ++ es.drop (off + len)).length = es.length := by
          simp only [List.length_append, List.length_take, List.length_drop, List.length_replicate]; omega
        have hup := upd_ok ok g b s' es _ arr _ ty' fz hrow hρ hb hfz (by rw [List.size_toArray, splice_len _ _ _ (by simpa using hfit), Array.length_toList]) (by rw [hlen']; exact Nat.le_refl _) hco
        have ho' := ho.resolve_right (by omega)
        subst ho'
        have hone := one_of_cont (by rw [hfl, List.length_replicate]) hcf
        have hst := run_storeCells_fz (P := P) b (off * s') ty' fz fl 0 arr c.w hb hfz (by omega) hone
        simp only [Nat.add_zero] at hst
        refine ⟨_, _, .tuple #[], _, hk, ?_, hup.1, hup.2, rfl, hmk _⟩
        obtain ⟨m, rfl⟩ : ∃ m, len = m + 1 := ⟨len - 1, by omega⟩
        have hzc : (Builtin.zeroCells z.cells (m + 1)).toList = fl := by rw [hfd, ← hsz0]; rfl
        simp [Builtin.clear_, run_underlying ht, zeroValue, typeInfo, hi, hz1, hzc, hst]
  · exact h.elim

theorem foldl_push (l : List UInt8) (a : Array UInt8) : l.foldl (fun r b => ByteArray.push r b) (⟨a⟩ : ByteArray) = ⟨a ++ l.toArray⟩ := by
  induction l generalizing a with
  | nil => simp
  | cons x l ih => simp only [List.foldl_cons]; show l.foldl _ (⟨a.push x⟩ : ByteArray) = _; rw [ih]; simp

theorem res_b2s (ok : Ok c) {src dst e : TypeId} {x : Opd} {ev : Opd → V} {hf : Nat} {u : Value} (hs : P.underlying src = some (.slice e)) (he : P.underlying e = some (.int .u8)) (hd : P.underlying dst = some .string)
    (hr : Rep c u (ev x)) (h : opW (.b2s x) ev c.rows hf K) : Res c ((convert src dst u).run P c.w) K := by
  simp only [opW] at h
  obtain ⟨hns, h⟩ := h
  have hx : ∀ s, ev x ≠ .d (.str s) := fun s e => by rw [e] at hns; simp [notStr] at hns
  obtain ⟨es, fl, ⟨hby, hk⟩, hsrc⟩ := src_of (P := P) ok hr h
  have hflen := hsrc.1
  have hnum : ∃ ns : List Int, fl = ns.map (Value.int .u8) ∧ es = ns.map fun n => [.d (.int .u8 n)] := by
    have hc := hsrc.2.1
    clear hk h hsrc
    induction es generalizing fl with
    | nil => exact ⟨[], by simpa using hflen, rfl⟩
    | cons e es ih =>
      obtain ⟨n, rfl⟩ := hby e (by simp)
      cases fl with
      | nil => simp at hflen
      | cons f fl =>
        obtain ⟨x, hx1, hx2⟩ := hc.2.2 0 _ 0 _ rfl rfl
        simp at hx1; subst hx1
        have := rep_int hx2; subst this
        have hc' : Cont c 1 es fl.toArray := by
          refine ⟨fun e he => hc.1 e (by simp [he]), by simp at hflen ⊢; omega, fun i e j v h1 h2 => ?_⟩
          obtain ⟨x, hx1, hx2⟩ := hc.2.2 (i + 1) e j v (by simpa using h1) h2
          refine ⟨x, ?_, hx2⟩
          have : (i + 1) * 1 + j = i * 1 + j + 1 := by omega
          rw [this] at hx1
          simpa using hx1
        obtain ⟨ns, e1, e2⟩ := ih (fun e he => hby e (by simp [he])) (fl := fl) (by simp at hflen ⊢; omega) hc'
        exact ⟨n :: ns, by simp [e1], by simp [e2]⟩
  obtain ⟨ns, hfl, hes⟩ := hnum
  have hbs : es.map byteOfV = ns.map fun n => UInt8.ofNat n.toNat := by rw [hes]; simp [byteOfV]
  rw [hbs] at hk
  have hlenn : es.length = ns.length := by rw [hes]; simp
  have hfc := hsrc.2.2.2 c.w (fun _ _ _ => rfl) es.length (Nat.le_refl _)
  have hlo := hsrc.2.2.1
  have hfull : fl.take (es.length * 1) = fl := List.take_of_length_le (by omega)
  rw [hfull] at hfc
  have hshape : ∃ a len cap, u = .slice a len cap := by
    cases hv : ev x with
    | d d =>
      rw [hv] at hr h
      cases hr with | d _ _ hr =>
      cases d with
      | nils => cases hr; exact ⟨_, _, _, rfl⟩
      | str s => exact absurd hv (hx s)
      | sl => cases hr <;> exact ⟨_, _, _, rfl⟩
      | _ => simp [elemsW] at h
    | osl a b c' d e =>
      rw [hv] at hr h
      simp only [elemsW] at h
      rcases rep_osl hr (by obtain ⟨rfl, hl, _⟩ := h; exact hl) with ⟨rfl, _⟩ | ⟨_, _, _, _, _, _, rfl, _⟩ <;> exact ⟨_, _, _, rfl⟩
    | any => rw [hv] at h; simp [elemsW] at h
    | optr => rw [hv] at h; simp [elemsW] at h
    | agg => rw [hv] at h; simp [elemsW] at h
    | tup => rw [hv] at h; simp [elemsW] at h
    | fn => rw [hv] at h; simp [elemsW] at h
  obtain ⟨a, len, cap, rfl⟩ := hshape
  simp [Builtin.lenOf] at hlo
  subst hlo
  refine Res.same ok hk (u := .string ⟨(ns.map fun n => UInt8.ofNat n.toNat).toArray⟩) ?_ (mk_str _)
  rw [run_convert_bytes_string c.w src dst e a _ cap hs he hd]
  cases a with
  | none =>
    simp [Builtin.firstCells] at hfc
    subst hfc
    have : ns = [] := by simpa using hfl.symm
    subst this
    simp [Conv.bytesToString]
    rfl
  | some a =>
    simp only [Builtin.firstCells, Nat.mul_one] at hfc
    rw [run_bytesToString c.w a _ cap ns (by rw [hfc, hfl])]
    congr 2
    have h2 : ∀ (ns : List Int) (r : ByteArray), ns.foldl (fun (r : ByteArray) n => r.push (UInt8.ofNat n.toNat)) r = (ns.map fun n => UInt8.ofNat n.toNat).foldl (fun r b => r.push b) r := by
      intro ns
      induction ns with
      | nil => intro r; rfl
      | cons n ns ih => intro r; simp only [List.foldl_cons, List.map_cons]; exact ih _
    rw [h2]
    have := foldl_push (ns.map fun n => UInt8.ofNat n.toNat) #[]
    simp only [Array.empty_append] at this
    exact this

theorem res_s2b (ok : Ok c) {src dst e : TypeId} {x : Opd} {ev : Opd → V} {hf : Nat} {u : Value} (hu : c.rows[hf]? = some .un) (hs : P.underlying src = some .string) (hd : P.underlying dst = some (.slice e)) (he : P.underlying e = some (.int .u8))
    (hr : Rep c u (ev x)) (h : opW (.s2b x) ev c.rows hf K) : Res c ((convert src dst u).run P c.w) K := by
  simp only [opW] at h
  split at h
  · rename_i s e1; rw [e1] at hr
    have := rep_str hr; subst this
    have hlt : hf < c.rows.length := (List.getElem?_eq_some_iff.1 hu).1
    have hforce : (Question.appendCap s.length 0 e).forced = false := rfl
    obtain ⟨cap, hcap, hcl⟩ : ∃ cap, cap = (Question.appendCap s.length 0 e).cut (c.w.tape c.w.drawn (.appendCap s.length 0 e)) ∧ s.length ≤ cap := ⟨_, rfl, by simp only [Question.cut]; omega⟩
    obtain ⟨arr, harr⟩ : ∃ arr : Array Value, (s.map fun b => Value.int .u8 (b.toNat : Int)).toArray ++ Array.replicate (cap - s.length) (.int .u8 0) = arr := ⟨_, rfl⟩
    have hal : arr.size = cap := by rw [← harr]; simp; omega
    have hco : Cont c 1 (s.map fun b => [.d (.int .u8 b.toNat)]) arr := by
      refine ⟨fun e he => ?_, by rw [hal]; simpa using hcl, fun i e j v h1 h2 => ?_⟩
      · obtain ⟨b, _, rfl⟩ := List.mem_map.1 he
        exact ⟨rfl, by simp [oneV]⟩
      · simp only [List.getElem?_map] at h1
        obtain ⟨b, hb, rfl⟩ := Option.map_eq_some_iff.1 h1
        cases j with
        | zero =>
          simp at h2; subst h2
          obtain ⟨hi, hbi⟩ := List.getElem?_eq_some_iff.1 hb
          refine ⟨.int .u8 b.toNat, ?_, mk_int _ _⟩
          rw [← harr, Array.getElem?_append_left (by simpa using hi)]
          simp [hb]
        | succ j => simp at h2
    have hfz : ∀ i, i < arr.size → ¬ (arr.size ≤ i ∧ i < arr.size + 1) := fun i hi => by omega
    have hrunw : ((c.w.drew.alloc (.cells arr e)).freeze ⟨c.w.heap.size, arr.size, none⟩ 1).heap = c.w.heap.push (.cells arr e (arr.size, arr.size + 1)) := by
      simp only [World.freeze, World.alloc, World.drew]
      rw [if_neg (by omega)]
      apply Array.ext_getElem?
      intro k
      rw [Array.getElem?_modify]
      by_cases hk : c.w.heap.size = k
      · subst hk; simp
      · rw [if_neg hk, Array.getElem?_push, Array.getElem?_push]
        rw [if_neg (fun e => hk e.symm), if_neg (fun e => hk e.symm)]
    have halo := alloc_ok ok hf 1 _ arr e (arr.size, arr.size + 1) (.inl hu) hfz hco ((c.w.drew.alloc (.cells arr e)).freeze ⟨c.w.heap.size, arr.size, none⟩ 1) hrunw rfl rfl rfl
    refine ⟨_, _, .slice (some ⟨c.w.heap.size, 0, none⟩) s.length cap, _, h, ?_, halo.1, halo.2, rfl, ?_⟩
    · have hmap : (⟨s.toArray⟩ : ByteArray).data.map (fun b => Value.int .u8 b.toNat) = (s.map fun b => Value.int .u8 b.toNat).toArray := by simp
      have hsh : (c.w.drew.alloc (.cells arr e)).shape? c.w.heap.size = some (e, arr.size) := by
        have : (c.w.drew.alloc (.cells arr e)).heap[c.w.heap.size]? = some (.cells arr e (0, 0)) := push_new (w := c.w) rfl
        simp only [World.shape?, this]
      simp only [convert, Sem.run_bind, run_underlying hs, run_underlying hd, run_underlying he, Result.andThen_ok, Conv.stringToBytes, size_str, run_choose_drew, hforce, if_false, Bool.false_eq_true, hmap]
      rw [← hcap, harr]
      simp only [newRow, markStringish, Sem.run_bind, run_newObj_alloc, Result.andThen_ok, Sem.run_pure, World.size_drew, run_shape, hsh, run_freeze]
    · refine .osl _ _ _ _ _ cap c.w.heap.size 0 _ arr e _ (by simp [hlt]; rfl) (by simp) (by simp) (by rw [hrunw]; simp; rfl) (.inl (by simp)) (by omega) hcl (by omega)
  · exact h.elim

end
end Go.Vx

namespace Go.Vx
section
variable {P : Program} {c : Cx} {K : V → List (Nat × RowS) → Prop}

theorem live_set {rows : Rows} {h hf sz : Nat} {es : List (List V)} {o : GO} (hr : (rows.set hf (.obj o))[h]? = some (RowS.live sz es)) : h ≠ hf ∧ rows[h]? = some (RowS.live sz es) := by
  rw [List.getElem?_set] at hr
  split at hr
  · split at hr <;> simp at hr
  · rename_i hne; exact ⟨Ne.symm hne, hr⟩

/-- A handle gets a new object. -/
theorem objnew_ok (ok : Ok c) (hf : Nat) (o : GO) (ob : Obj) (hu : c.rows[hf]? = some .un) (w' : World) (hw : w'.heap = c.w.heap.push ob)
    (hos : w'.os = c.w.os) (htape : w'.tape = c.w.tape) (hout : w'.output = c.w.output) (hg : GOk w' c.w.heap.size o) :
    Ok ⟨fun h => if h = hf then some c.w.heap.size else c.ρ h, c.I, c.rows.set hf (.obj o), w'⟩ ∧
    Ext c ⟨fun h => if h = hf then some c.w.heap.size else c.ρ h, c.I, c.rows.set hf (.obj o), w'⟩ := by
  have hlt : hf < c.rows.length := (List.getElem?_eq_some_iff.1 hu).1
  have hx : Ext c ⟨fun h => if h = hf then some c.w.heap.size else c.ρ h, c.I, c.rows.set hf (.obj o), w'⟩ := by
    refine ⟨hos, htape, hout, by simp [hw], fun b hb _ => push_old hw hb, fun _ h => h, fun _ h => .inl h, ?_, ?_⟩
    · intro h b hb
      dsimp only at hb
      split at hb
      · injection hb with hb; exact .inr (by omega)
      · exact .inl hb
    · intro h
      by_cases hh : h = hf
      · subst hh
        unfold RowStep
        rw [hu]; exact ⟨_, by simp [hlt]; rfl⟩
      · exact RowStep.of_eq (by simp [Ne.symm hh]) (by simp [hh]) (fun b hb => push_old hw (ok.own _ _ hb).1)
  refine ⟨⟨?_, ?_, ?_, ?_, ?_, ?_⟩, hx⟩
  · intro h h' b h1 h2
    dsimp only at h1 h2
    split at h1 <;> split at h2
    · simp_all
    · injection h1 with h1; have := (ok.own _ _ h2).1; omega
    · injection h2 with h2; have := (ok.own _ _ h1).1; omega
    · exact ok.inj _ _ _ h1 h2
  · intro h b hb
    dsimp only at hb ⊢
    split at hb
    · rename_i hh; subst hh
      injection hb with hb; subst hb
      exact ⟨by simp [hw], fun hi => absurd (ok.imm _ hi) (by omega), .obj o, by simp [hlt], trivial⟩
    · rename_i hh
      obtain ⟨h1, h2, r, h3, h4⟩ := ok.own _ _ hb
      exact ⟨by simp [hw]; omega, h2, r, by simp [Ne.symm hh, h3], h4⟩
  · intro h b sz' es' hb hr
    dsimp only at hb hr
    obtain ⟨hne, hr⟩ := live_set hr
    rw [if_neg hne] at hb
    obtain ⟨arr', ty', fz', h1, h2, h3⟩ := ok.cont _ _ _ _ hb hr
    exact ⟨arr', ty', fz', (push_old hw (ok.own _ _ hb).1).trans h1, h2, h3.mono hx ok⟩
  · intro h sz' es' hb hr
    dsimp only at hb hr
    obtain ⟨hne, hr⟩ := live_set hr
    rw [if_neg hne] at hb
    exact ok.virt _ _ _ hb hr
  · intro b hb
    have := ok.imm b hb
    simp [hw]; omega
  · refine ⟨fun h o' hr => ?_, ok.g.glob.mono hx.imm (hx.imm_same ok)⟩
    by_cases hh : h = hf
    · subst hh
      simp [hlt] at hr; subst hr
      exact ⟨_, by simp, hg⟩
    · simp [Ne.symm hh] at hr
      obtain ⟨b, h1, h2⟩ := ok.g.gob h o' hr
      exact ⟨b, by simp [hh, h1], h2.same (push_old hw (ok.own _ _ h1).1)⟩

/-- An object is changed. -/
theorem objupd_ok (ok : Ok c) (h b : Nat) (o o' : GO) (ob : Obj) (hrow : c.rows[h]? = some (.obj o)) (hρ : c.ρ h = some b) (w' : World) (hw : w'.heap = c.w.heap.setIfInBounds b ob)
    (hos : w'.os = c.w.os) (htape : w'.tape = c.w.tape) (hout : w'.output = c.w.output) (hg : GOk w' b o') :
    Ok ⟨c.ρ, c.I, c.rows.set h (.obj o'), w'⟩ ∧ Ext c ⟨c.ρ, c.I, c.rows.set h (.obj o'), w'⟩ := by
  have hlt : h < c.rows.length := (List.getElem?_eq_some_iff.1 hrow).1
  have hoth : ∀ k, k ≠ b → w'.heap[k]? = c.w.heap[k]? := fun k hk => by rw [hw, Array.getElem?_setIfInBounds, if_neg (Ne.symm hk)]
  have hsz : w'.heap.size = c.w.heap.size := by simp [hw]
  have hx : Ext c ⟨c.ρ, c.I, c.rows.set h (.obj o'), w'⟩ := by
    refine ⟨hos, htape, hout, by simp [hsz], fun k _ hno => hoth k (fun e => hno h (by rw [hρ, e])), fun _ h => h, fun _ h => .inl h, fun _ _ h => .inl h, fun k => ?_⟩
    by_cases hh : k = h
    · subst hh
      unfold RowStep
      rw [hrow]
      exact .inr ⟨⟨o', by simp [hlt]⟩, rfl⟩
    · exact RowStep.of_eq (by simp [Ne.symm hh]) rfl (fun b' hb' => hoth b' (fun e => hh (ok.inj _ _ _ hb' (e ▸ hρ))))
  refine ⟨⟨ok.inj, ?_, ?_, ?_, ?_, ?_⟩, hx⟩
  · intro k b' hb'
    obtain ⟨h1, h2, r, h3, h4⟩ := ok.own _ _ hb'
    by_cases hh : k = h
    · subst hh; exact ⟨by simpa [hsz] using h1, h2, .obj o', by simp [hlt], trivial⟩
    · exact ⟨by simpa [hsz] using h1, h2, r, by simp [Ne.symm hh, h3], h4⟩
  · intro k b' sz' es1 hb' hr
    obtain ⟨hne, hr⟩ := live_set hr
    obtain ⟨arr1, ty1, fz1, h1, h2, h3⟩ := ok.cont _ _ _ _ hb' hr
    exact ⟨arr1, ty1, fz1, (hoth b' (fun e => hne (ok.inj _ _ _ hb' (e ▸ hρ)))).trans h1, h2, h3.mono hx ok⟩
  · intro k sz' es1 hb' hr
    obtain ⟨hne, hr⟩ := live_set hr
    exact ok.virt _ _ _ hb' hr
  · intro k hk
    have := ok.imm k hk
    simp [hsz]; omega
  · refine ⟨fun k o1 hr => ?_, ok.g.glob.mono hx.imm (hx.imm_same ok)⟩
    by_cases hh : k = h
    · subst hh
      simp [hlt] at hr; subst hr
      exact ⟨b, hρ, hg⟩
    · simp [Ne.symm hh] at hr
      obtain ⟨b', h1, h2⟩ := ok.g.gob k o1 hr
      exact ⟨b', h1, h2.same (hoth b' (fun e => hh (ok.inj _ _ _ h1 (e ▸ hρ))))⟩

theorem rep_oh {u : Value} {h k : Nat} {o : GO} (hr : Rep c u (.optr 0 h 0 k 0)) (hrow : c.rows[h]? = some (.obj o)) :
    ∃ b, c.ρ h = some b ∧ (k = 0 → u = .pointer (some ⟨b, 0, none⟩)) ∧ (k = 1 → u = .map (some b)) := by
  cases hr with
  | optr _ _ _ _ _ b es hr2 => rw [hrow] at hr2; cases hr2
  | optrStale _ _ _ _ _ _ _ hs => rcases hs with hs | ⟨_, _, hs, _⟩ <;> (rw [hrow] at hs; cases hs)
  | oh _ _ _ b o' hr2 hρ hv h0 h1 => exact ⟨b, hρ, h0, h1⟩

theorem res_rng (ok : Ok c) {t : TypeId} {x : Opd} {ev : Opd → V} {hf : Nat} {u : Value} (ht : P.underlying t = some .string) (hu : c.rows[hf]? = some .un) (hr : Rep c u (ev x)) (h : opW (.rng x) ev c.rows hf K) :
    Res c ((Instr.range t u).run P c.w) K := by
  simp only [opW] at h
  split at h
  · rename_i s e; rw [e] at hr
    cases hr with | d _ _ hr =>
    cases hr
    obtain ⟨h1, h2⟩ := objnew_ok ok hf (.it s 0) (.stringIter ⟨s.toArray⟩ 0) hu { c.w with heap := c.w.heap.push (.stringIter ⟨s.toArray⟩ 0) } rfl rfl rfl rfl (by simp [GOk])
    have hlt : hf < c.rows.length := (List.getElem?_eq_some_iff.1 hu).1
    refine ⟨_, _, _, _, h, ?_, h1, h2, rfl, .oh _ hf 0 c.w.heap.size (.it s 0) (by simp [hlt]) (by simp) rfl (fun _ => rfl) (fun h => by omega)⟩
    simp [Instr.range, run_underlying ht, newObj]
    rfl
  · exact h.elim

theorem res_mkmap (ok : Ok c) {t : TypeId} {ev : Opd → V} {hf : Nat} (hu : c.rows[hf]? = some .un) (h : opW .mkmap ev c.rows hf K) :
    Res c ((Instr.makeMap t none).run P c.w) K := by
  simp only [opW] at h
  obtain ⟨h1, h2⟩ := objnew_ok ok hf (.mp []) (.map #[] 0) hu { c.w with heap := c.w.heap.push (.map #[] 0) } rfl rfl rfl rfl ⟨#[], 0, by simp, rfl, by simp⟩
  have hlt : hf < c.rows.length := (List.getElem?_eq_some_iff.1 hu).1
  refine ⟨_, _, _, _, h, ?_, h1, h2, rfl, .oh _ hf 1 c.w.heap.size (.mp []) (by simp [hlt]) (by simp) rfl (fun h => by omega) (fun _ => rfl)⟩
  simp [Instr.makeMap, newObj]
  rfl

theorem res_nxt (ok : Ok c) {t : TypeId} {x : Opd} {ev : Opd → V} {hf : Nat} {u : Value} (hr : Rep c u (ev x)) (h : opW (.nxt x) ev c.rows hf K) :
    Res c ((Instr.next u true t).run P c.w) K := by
  simp only [opW] at h
  split at h
  · rename_i g e; rw [e] at hr
    unfold nxtW at h
    split at h
    · rename_i s pos hrow
      obtain ⟨b, hρ, h0, _⟩ := rep_oh hr hrow
      have hu := h0 rfl; subst hu
      obtain ⟨b', hρ', hg⟩ := ok.g.gob g _ hrow
      rw [hρ] at hρ'; injection hρ' with hρ'; subst hρ'
      have hlt : b < c.w.heap.size := hg.lt
      simp only [GOk] at hg
      by_cases hp : pos < s.length
      · obtain ⟨h1, h2⟩ := objupd_ok ok g b _ (.it s (pos + (runeAt s pos).2)) (.stringIter ⟨s.toArray⟩ (pos + (runeAt s pos).2)) hrow hρ { c.w with heap := c.w.heap.setIfInBounds b (.stringIter ⟨s.toArray⟩ (pos + (runeAt s pos).2)) } rfl rfl rfl rfl (by simp [GOk, hlt])
        refine ⟨_, _, _, _, h.1 hp, ?_, h1, h2, rfl, .tup #[.bool true, .int .i64 pos, .int .i32 (runeAt s pos).1] _ rfl fun j v x h3 h4 => ?_⟩
        · have hp' : pos < (⟨s.toArray⟩ : ByteArray).size := by show pos < s.toArray.size; simpa using hp
          simp only [runeAt]
          simp only [Instr.next, getObj, setObj, Sem.run_bind, Sem.run, hg, Result.andThen, hp', if_true]
          simp [goInt, Sem.run, hg]
        · match j with
          | 0 => simp at h3 h4; subst h3 h4; exact .d _ _ (.bool _)
          | 1 => simp at h3 h4; subst h3 h4; exact .d _ _ (.int _ _)
          | 2 => simp at h3 h4; subst h3 h4; exact .d _ _ (.int _ _)
          | j + 3 => simp at h3
      · refine Res.same ok (h.2 hp) (u := .tuple #[.bool false]) ?_ (.tup _ _ rfl fun j v x h3 h4 => ?_)
        · have hp' : ¬ pos < (⟨s.toArray⟩ : ByteArray).size := by show ¬ pos < s.toArray.size; simpa using hp
          simp only [Instr.next, getObj, Sem.run_bind, Sem.run, hg, Result.andThen, hp', if_false]
          simp
        · match j with
          | 0 => simp at h3 h4; subst h3 h4; exact .d _ _ (.bool _)
          | j + 1 => simp at h3
    · exact h.elim
  · exact h.elim

theorem bytes_beq (a b : List UInt8) : ((⟨a.toArray⟩ : ByteArray) == ⟨b.toArray⟩) = decide (a = b) := by
  show (a.toArray == b.toArray) = _
  rw [Bool.eq_iff_iff]; simp

theorem find_mp {kind : TypeDesc} (hk : kind = .string) (s : List UInt8) : ∀ (es : List (List UInt8 × D)) (ents : List MapEntry) (i : Nat), ents.map (fun e => (e.key, e.val)) = es.map (fun p => (Value.string ⟨p.1.toArray⟩, dv p.2)) →
    (mpHas es s = false ∧ Instr.findNow kind (.string ⟨s.toArray⟩) ents i = some none) ∨
    (mpHas es s = true ∧ ∃ j, (∀ z, Instr.findNow kind (.string ⟨s.toArray⟩) ents i = some (some (i + j, dv (mpGet z es s)))) ∧
      (∃ e, ents[j]? = some e ∧ e.key = .string ⟨s.toArray⟩) ∧ ∀ x, (ents.modify j fun e => { e with key := .string ⟨s.toArray⟩, val := dv x }).map (fun e => (e.key, e.val)) = (mpPut es s x).map (fun p => (Value.string ⟨p.1.toArray⟩, dv p.2)))
  | [], ents, i, h => by
    cases ents with
    | nil => exact .inl ⟨rfl, rfl⟩
    | cons => simp at h
  | p :: es, ents, i, h => by
    cases ents with
    | nil => simp at h
    | cons e ents =>
      simp only [List.map_cons, List.cons.injEq, Prod.mk.injEq] at h
      obtain ⟨⟨h1, h2⟩, h3⟩ := h
      subst hk
      have hs : Instr.sameNow .string (.string ⟨s.toArray⟩) e.key = some (decide (s = p.1)) := by
        rw [h1]; simp only [Instr.sameNow, bytes_beq]
      by_cases hp : p.1 = s
      · refine .inr ⟨by simp [mpHas, hp], 0, fun z => ?_, ⟨e, rfl, by rw [h1, hp]⟩, fun x => ?_⟩
        · simp only [Instr.findNow, hs, hp, mpGet, if_true, decide_true]
          rw [h2]; rfl
        · simp [mpPut, hp, h3]
      · have hs' : Instr.sameNow .string (.string ⟨s.toArray⟩) e.key = some false := by rw [hs]; simp [Ne.symm hp]
        rcases find_mp rfl s es ents (i + 1) h3 with ⟨h4, h5⟩ | ⟨h4, j, h5, h7, h8⟩
        · exact .inl ⟨by simp [mpHas, hp, h4], by simp only [Instr.findNow, hs']; exact h5⟩
        · refine .inr ⟨by simp [mpHas, hp, h4], j + 1, fun z => ?_, by simpa using h7, fun x => ?_⟩
          · simp only [Instr.findNow, hs', mpGet, hp, if_false]
            rw [h5 z]; simp only [Nat.add_assoc, Nat.add_comm 1]
          · simp [mpPut, hp, h1, h2, h8 x]

theorem mpGet_sc {z : D} {es : List (List UInt8 × D)} (h : ∀ p ∈ es, isSc p.2 = true) (hz : isSc z = true) (s : List UInt8) : isSc (mpGet z es s) = true := by
  induction es with
  | nil => exact hz
  | cons p es ih =>
    simp only [mpGet]
    split
    · exact h p (by simp)
    · exact ih fun q hq => h q (by simp [hq])

theorem mpGet_no {z : D} {es : List (List UInt8 × D)} {s : List UInt8} (h : mpHas es s = false) : mpGet z es s = z := by
  induction es with
  | nil => rfl
  | cons p es ih =>
    simp only [mpHas] at h
    split at h
    · cases h
    · rename_i hp; simp [mpGet, hp, ih h]

theorem mpPut_sc {es : List (List UInt8 × D)} (h : ∀ p ∈ es, isSc p.2 = true) (s : List UInt8) {x : D} (hx : isSc x = true) : ∀ p ∈ mpPut es s x, isSc p.2 = true := by
  induction es with
  | nil => intro p hp; simp [mpPut] at hp; subst hp; exact hx
  | cons q es ih =>
    intro p hp
    simp only [mpPut] at hp
    split at hp
    · rcases List.mem_cons.1 hp with rfl | hp
      · exact hx
      · exact h p (by simp [hp])
    · rcases List.mem_cons.1 hp with rfl | hp
      · exact h _ (by simp)
      · exact ih (fun r hr => h r (by simp [hr])) p hp

theorem mpPut_no {es : List (List UInt8 × D)} {s : List UInt8} {x : D} (h : mpHas es s = false) : mpPut es s x = es ++ [(s, x)] := by
  induction es with
  | nil => rfl
  | cons p es ih =>
    simp only [mpHas] at h
    split at h
    · cases h
    · rename_i hp; simp [mpPut, hp, ih h]

theorem dv_rep {I : Nat → Prop} {w : World} {x : D} (h : isSc x = true) : RepD I w (dv x) x := by
  cases x <;> first | exact .int _ _ | exact .bool _ | exact .str _ | simp [isSc] at h

theorem dv_eq {I : Nat → Prop} {w : World} {x : D} {u : Value} (h : isSc x = true) (hr : RepD I w u x) : u = dv x := by
  cases hr <;> first | rfl | simp [isSc] at h

/-- the zero value of a type of one cell -/
def zeroD (P : Program) (t : TypeId) : Option D := (P.info? t).bind fun i => i.zero.bind fun v => match v with | .int k n => some (.int k n) | .bool b => some (.bool b) | _ => none

theorem zero_run {et : TypeId} {z : D} (hz : zeroD P et = some z) : ∃ v, (∀ w, (zeroValue et).run P w = .ok v w) ∧ v = dv z := by
  unfold zeroD at hz
  obtain ⟨i, hi, hz⟩ := Option.bind_eq_some_iff.1 hz
  obtain ⟨v, hv, hz⟩ := Option.bind_eq_some_iff.1 hz
  refine ⟨v, fun w => by simp [zeroValue, typeInfo, hi, hv], ?_⟩
  split at hz <;> first | (injection hz with hz; subst hz; rfl) | cases hz

theorem res_lkp (ok : Ok c) {t kt et : TypeId} {z : D} {okf : Bool} {m k : Opd} {ev : Opd → V} {hf : Nat} {um uk : Value} (ht : P.underlying t = some (.map kt et)) (hk : P.underlying kt = some .string)
    (hz : zeroD P et = some z) (hrm : Rep c um (ev m)) (hrk : Rep c uk (ev k)) (h : opW (.lkp okf z m k) ev c.rows hf K) :
    Res c ((Instr.lookup t um uk okf).run P c.w) K := by
  simp only [opW] at h
  split at h
  · rename_i g s e1 e2
    rw [e1] at hrm; rw [e2] at hrk
    obtain ⟨hzs, h⟩ := h
    unfold lkpW at h
    split at h
    · rename_i es hrow
      obtain ⟨b, hρ, _, h1⟩ := rep_oh hrm hrow
      have hu := h1 rfl; subst hu
      cases hrk with | d _ _ hrk =>
      cases hrk
      obtain ⟨b', hρ', hg⟩ := ok.g.gob g _ hrow
      rw [hρ] at hρ'; injection hρ' with hρ'; subst hρ'
      obtain ⟨ents, clock, hh, he, hsc⟩ := hg
      obtain ⟨v, hz1, hzv⟩ := zero_run hz
      subst hzv
      have hck : (Instr.checkKey ents.isEmpty 10000 kt (.string ⟨s.toArray⟩)).run P c.w = .ok () c.w := by
        rw [Instr.checkKey]
        simp only [Sem.run_bind, run_underlying hk, Result.andThen, Sem.run_pure]
      rcases find_mp (kind := .string) rfl s es ents.toList 0 he with ⟨h4, h5⟩ | ⟨h4, j, h5, h7, h8⟩
      · have hfk : (Instr.findKey kt (.string ⟨s.toArray⟩) ents.toList).run P c.w = .ok none c.w := by
          simp only [Instr.findKey, Sem.run_bind, run_underlying hk, Result.andThen, h5]
          simp
        have hrun : (Instr.lookup t (.map (some b)) (.string ⟨s.toArray⟩) okf).run P c.w = .ok (if okf then .tuple #[dv z, .bool false] else dv z) c.w := by
          simp only [Instr.lookup, Sem.run_bind, run_underlying ht, getObj, Sem.run, hh, Result.andThen, Sem.run_pure, hck, hfk, hz1]
        rw [mpGet_no h4, h4] at h
        refine Res.same ok h hrun ?_
        cases okf with
        | false => exact .d _ _ (dv_rep hzs)
        | true =>
          refine .tup _ _ rfl fun j v x h3 h4 => ?_
          match j with
          | 0 => simp at h3 h4; subst h3 h4; exact .d _ _ (dv_rep hzs)
          | 1 => simp at h3 h4; subst h3 h4; exact .d _ _ (.bool _)
          | j + 2 => simp at h3
      · have hfk : (Instr.findKey kt (.string ⟨s.toArray⟩) ents.toList).run P c.w = .ok (some (0 + j, dv (mpGet z es s))) c.w := by
          simp only [Instr.findKey, Sem.run_bind, run_underlying hk, Result.andThen, h5 z]
          simp
        have hrun : (Instr.lookup t (.map (some b)) (.string ⟨s.toArray⟩) okf).run P c.w = .ok (if okf then .tuple #[dv (mpGet z es s), .bool true] else dv (mpGet z es s)) c.w := by
          simp only [Instr.lookup, Sem.run_bind, run_underlying ht, getObj, Sem.run, hh, Result.andThen, Sem.run_pure, hck, hfk]
        rw [h4] at h
        have hgs := mpGet_sc hsc hzs s
        refine Res.same ok h hrun ?_
        cases okf with
        | false => exact .d _ _ (dv_rep hgs)
        | true =>
          refine .tup _ _ rfl fun j v x h3 h4 => ?_
          match j with
          | 0 => simp at h3 h4; subst h3 h4; exact .d _ _ (dv_rep hgs)
          | 1 => simp at h3 h4; subst h3 h4; exact .d _ _ (.bool _)
          | j + 2 => simp at h3
    · exact h.elim
  · exact h.elim

theorem res_upd (ok : Ok c) {t kt et : TypeId} {m k v : Opd} {ev : Opd → V} {hf : Nat} {um uk uv : Value} (ht : P.underlying t = some (.map kt et)) (hk : P.underlying kt = some .string)
    (hrm : Rep c um (ev m)) (hrk : Rep c uk (ev k)) (hrv : Rep c uv (ev v)) (h : opW (.upd m k v) ev c.rows hf K) :
    ∃ v ups c', K v ups ∧ (Instr.mapUpdate t um uk uv).run P c.w = .ok () c'.w ∧ Ok c' ∧ Ext c c' ∧ c'.rows = setRows c.rows ups ∧ v = .any := by
  simp only [opW] at h
  split at h
  · rename_i g s x e1 e2 e3
    rw [e1] at hrm; rw [e2] at hrk; rw [e3] at hrv
    obtain ⟨hxs, h⟩ := h
    unfold updW at h
    split at h
    · rename_i es hrow
      obtain ⟨b, hρ, _, h1⟩ := rep_oh hrm hrow
      have hu := h1 rfl; subst hu
      cases hrk with | d _ _ hrk =>
      cases hrk
      cases hrv with | d _ _ hrv =>
      have := dv_eq hxs hrv; subst this
      obtain ⟨b', hρ', hg⟩ := ok.g.gob g _ hrow
      rw [hρ] at hρ'; injection hρ' with hρ'; subst hρ'
      have hlt : b < c.w.heap.size := hg.lt
      obtain ⟨ents, clock, hh, he, hsc⟩ := hg
      have hck : (Instr.checkKey false 10000 kt (.string ⟨s.toArray⟩)).run P c.w = .ok () c.w := by
        rw [Instr.checkKey]
        simp only [Sem.run_bind, run_underlying hk, Result.andThen, Sem.run_pure]
      have fin : ∀ (ents' : Array MapEntry) (clock' : Nat), (Instr.mapUpdate t (.map (some b)) (.string ⟨s.toArray⟩) (dv x)).run P c.w = .ok () { c.w with heap := c.w.heap.setIfInBounds b (.map ents' clock') } →
          ents'.toList.map (fun e => (e.key, e.val)) = (mpPut es s x).map (fun p => (Value.string ⟨p.1.toArray⟩, dv p.2)) →
          ∃ v ups c', K v ups ∧ (Instr.mapUpdate t (.map (some b)) (.string ⟨s.toArray⟩) (dv x)).run P c.w = .ok () c'.w ∧ Ok c' ∧ Ext c c' ∧ c'.rows = setRows c.rows ups ∧ v = .any := by
        intro ents' clock' hrun hents
        obtain ⟨h2, h3⟩ := objupd_ok ok g b _ (.mp (mpPut es s x)) (.map ents' clock') hrow hρ { c.w with heap := c.w.heap.setIfInBounds b (.map ents' clock') } rfl rfl rfl rfl ⟨ents', clock', by simp [hlt], hents, mpPut_sc hsc s hxs⟩
        exact ⟨_, _, _, h, hrun, h2, h3, rfl, rfl⟩
      rcases find_mp (kind := .string) rfl s es ents.toList 0 he with ⟨h4, h5⟩ | ⟨h4, j, h5, h7, h8⟩
      · have hfk : (Instr.findKey kt (.string ⟨s.toArray⟩) ents.toList).run P c.w = .ok none c.w := by
          simp only [Instr.findKey, Sem.run_bind, run_underlying hk, Result.andThen, h5]
          simp
        refine fin (ents.push ⟨.string ⟨s.toArray⟩, dv x, clock⟩) (clock + 1) ?_ ?_
        · simp only [Instr.mapUpdate, Sem.run_bind, run_underlying ht, getObj, setObj, Sem.run, hh, Result.andThen, Sem.run_pure, hck, hfk]
        · rw [mpPut_no h4]; simp [he]
      · have hfk : (Instr.findKey kt (.string ⟨s.toArray⟩) ents.toList).run P c.w = .ok (some (0 + j, dv (mpGet (.bool true) es s))) c.w := by
          simp only [Instr.findKey, Sem.run_bind, run_underlying hk, Result.andThen, h5 (.bool true)]
          simp
        obtain ⟨e, h9, h10⟩ := h7
        have h9' : ents[0 + j]? = some e := by simpa using h9
        have hst : (Instr.keyThatStays (.string ⟨s.toArray⟩) (.string ⟨s.toArray⟩)).run P c.w = .ok (.string ⟨s.toArray⟩) c.w := by
          have : Instr.sameBits 10000 (.string ⟨s.toArray⟩) (.string ⟨s.toArray⟩) = true := by
            simp only [Instr.sameBits, bytes_beq, decide_true]
          simp [Instr.keyThatStays, this]
        refine fin (ents.modify (0 + j) fun e => { e with key := .string ⟨s.toArray⟩, val := dv x }) clock ?_ ?_
        · simp only [Instr.mapUpdate, Sem.run_bind, run_underlying ht, getObj, setObj, Sem.run, hh, Result.andThen, Sem.run_pure, hck, hfk, h9', Option.map_some, Option.getD_some, h10, hst]
        · rw [← h8 x]; simp
    · exact h.elim
  · exact h.elim

/-- The function that looks for a byte: it has no body in the program. -/
def isIdx (P : Program) (f : FuncId) : Bool :=
  match P.funcs[f]? with
  | some fn => fn.name == "internal/bytealg.IndexByteString" && fn.body.isNone && (Extern.findNext fn).isNone
  | none => false

theorem find_rows : Extern.allRows.lookup "internal/bytealg.IndexByteString" = some Extern.BytealgIndexByte.indexByte := by kernel_rfl
theorem find_gen : (Extern.allGenericRows.lookup "internal/bytealg.IndexByteString").isNone = true := by kernel_rfl
theorem find_typ : (Extern.allTypedRows.lookup "internal/bytealg.IndexByteString").isNone = true := by kernel_rfl

theorem res_idxB (ok : Ok c) {f : FuncId} {x y : Opd} {ev : Opd → V} {hf : Nat} {ux uy : Value} (hi : isIdx P f = true) (hx : Rep c ux (ev x)) (hy : Rep c uy (ev y)) (h : opW (.idxB x y) ev c.rows hf K) :
    ∃ v ups n c', K v ups ∧ (callFunc f #[ux, uy]).run P c.w = .ok n c'.w ∧ Ok c' ∧ Ext c c' ∧ c'.rows = setRows c.rows ups ∧ ((∃ u, n = .value u ∧ Rep c' u v) ∨ (n = .skip ∧ v = .any)) := by
  simp only [opW] at h
  split at h
  · rename_i s b e1 e2
    rw [e1] at hx; rw [e2] at hy
    cases hx with | d _ _ hx =>
    cases hx
    cases hy with | d _ _ hy =>
    cases hy
    unfold isIdx at hi
    split at hi
    · rename_i fn hfn
      simp only [Bool.and_eq_true, beq_iff_eq, Option.isNone_iff_eq_none] at hi
      obtain ⟨⟨hname, hb⟩, hn⟩ := hi
      have h2 := Option.isNone_iff_eq_none.1 find_gen
      have h3 := Option.isNone_iff_eq_none.1 find_typ
      have hfind : Extern.find fn = some Extern.BytealgIndexByte.indexByte := by
        simp only [Extern.find, hname, h2, h3, find_rows]
        rfl
      refine ⟨_, [], .value (.int .i64 (Lib.indexByte s b.toNat.toUInt8)), c, h, ?_, ok, .refl c, rfl, .inl ⟨_, rfl, .d _ _ (.int _ _)⟩⟩
      rw [run_callFunc_extern hfn (by rw [hname]; rfl) (by rw [hb]; rfl) hn hfind, Lib.run_indexByteString]
      rfl
    · cases hi
  · exact h.elim

end
end Go.Vx
