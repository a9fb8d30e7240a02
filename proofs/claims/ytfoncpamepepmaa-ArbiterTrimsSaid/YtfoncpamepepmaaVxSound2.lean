import Derived.Test.YtfoncpamepepmaaVxSound
import Derived.Laws.Strings
import Derived.Lib.Strings
set_option linter.unusedSimpArgs false
set_option linter.unusedVariables false
namespace Go.Vx

/-- What an operation that yields a value comes to. -/
def Res (c : Cx) (r : Result Value) (K : V → List (Nat × RowS) → Prop) : Prop :=
  ∃ v ups u c', K v ups ∧ r = .ok u c'.w ∧ Ok c' ∧ Ext c c' ∧ c'.rows = setRows c.rows ups ∧ Rep c' u v

section
variable {P : Program} {c : Cx} {K : V → List (Nat × RowS) → Prop}

theorem Res.same (ok : Ok c) {v : V} {u : Value} {r : Result Value} (hk : K v []) (hr : r = .ok u c.w) (hrep : Rep c u v) : Res c r K :=
  ⟨v, [], u, c, hk, hr, ok, .refl c, rfl, hrep⟩

theorem rep_int {u : Value} {k : IntKind} {n : Int} (h : Rep c u (.d (.int k n))) : u = .int k n := by
  cases h with | d _ _ h => cases h; rfl
theorem rep_bool {u : Value} {b : Bool} (h : Rep c u (.d (.bool b))) : u = .bool b := by
  cases h with | d _ _ h => cases h; rfl
theorem rep_boolU {u : Value} (h : Rep c u (.d .boolU)) : ∃ b, u = .bool b := by
  cases h with | d _ _ h => cases h; exact ⟨_, rfl⟩
theorem rep_str {u : Value} {s : List UInt8} (h : Rep c u (.d (.str s))) : u = .string ⟨s.toArray⟩ := by
  cases h with | d _ _ h => cases h; rfl
theorem rep_nils {u : Value} (h : Rep c u (.d .nils)) : u = .slice none 0 0 := by
  cases h with | d _ _ h => cases h; rfl
theorem rep_nilp {u : Value} (h : Rep c u (.d .nilp)) : u = .pointer none := by
  cases h with | d _ _ h => cases h; rfl
theorem mk_int (k : IntKind) (n : Int) : Rep c (.int k n) (.d (.int k n)) := .d _ _ (.int k n)
theorem mk_bool (b : Bool) : Rep c (.bool b) (.d (.bool b)) := .d _ _ (.bool b)
theorem mk_str (s : List UInt8) : Rep c (.string ⟨s.toArray⟩) (.d (.str s)) := .d _ _ (.str s)

theorem fdiv_pow (a : Int) (n : Nat) : a.fdiv (2 ^ n) = a / 2 ^ n := by
  rw [Int.fdiv_eq_ediv_of_nonneg]
  exact Int.le_of_lt (Int.pow_pos (by decide))

theorem string_toList (s : List UInt8) : (⟨s.toArray⟩ : ByteArray).toList = s := by
  rw [ByteArray.toList_eq]

theorem beq_list {a b : List UInt8} : (a == b) = decide (a = b) := by
  by_cases h : a = b <;> simp [h]

theorem res_bin (ok : Ok c) {op : BinOp} {t : TypeId} {x y : Operand} {ux uy : Value} {vx vy : V} (hx : Rep c ux vx) (hy : Rep c uy vy)
    (h : binW op vx vy fun d => K (.d d) []) : Res c ((do eqGuard op t x y ux uy; binOp op t ux uy : Sem Value).run P c.w) K := by
  unfold binW at h
  split at h
  · rename_i k a k' b
    have ex := rep_int hx; have ey := rep_int hy
    subst ex ey
    split at h
    · obtain ⟨h0, hk⟩ := h
      refine Res.same ok hk ?_ (mk_int _ _)
      simp [eqGuard_at_int, binOp, Op.shift, Int.not_lt.2 h0]
    · obtain ⟨h0, hk⟩ := h
      refine Res.same ok hk ?_ (mk_int _ _)
      simp [eqGuard_at_int, binOp, Op.shift, Int.not_lt.2 h0, fdiv_pow]
    · obtain ⟨rfl, h⟩ := h
      unfold binI at h
      split at h
      · refine Res.same ok h ?_ (mk_int _ _); simp [eqGuard_at_int, binOp, Op.intArith]
      · refine Res.same ok h ?_ (mk_int _ _); simp [eqGuard_at_int, binOp, Op.intArith]
      · refine Res.same ok h ?_ (mk_int _ _); simp [eqGuard_at_int, binOp, Op.intArith]
      · refine Res.same ok h.2 ?_ (mk_int _ _); simp [eqGuard_at_int, binOp, Op.intDiv, h.1]
      · refine Res.same ok h.2 ?_ (mk_int _ _); simp [eqGuard_at_int, binOp, Op.intDiv, h.1]
      · refine Res.same ok h ?_ (mk_int _ _); simp only [eqGuard_at_int, pure_bind, binOp_and]; rfl
      · refine Res.same ok h ?_ (mk_int _ _); simp only [eqGuard_at_int, pure_bind, binOp_or]; rfl
      · refine Res.same ok h ?_ (mk_int _ _); simp only [eqGuard_at_int, pure_bind, binOp_xor]; rfl
      · refine Res.same ok h ?_ (mk_int _ _); simp only [eqGuard_at_int, pure_bind, binOp_andNot]; rfl
      · refine Res.same ok h ?_ (mk_bool _); simp only [eqGuard_at_int, binOp, Op.intCmp]; by_cases hh : a = b <;> simp [hh]
      · refine Res.same ok h ?_ (mk_bool _); simp only [eqGuard_at_int, binOp, Op.intCmp]; by_cases hh : a = b <;> simp [hh]
      · refine Res.same ok h ?_ (mk_bool _); simp [eqGuard_at_int, binOp, Op.intCmp]
      · refine Res.same ok h ?_ (mk_bool _); simp [eqGuard_at_int, binOp, Op.intCmp]
      · refine Res.same ok h ?_ (mk_bool _); simp [eqGuard_at_int, binOp, Op.intCmp]
      · refine Res.same ok h ?_ (mk_bool _); simp [eqGuard_at_int, binOp, Op.intCmp]
      · exact h.elim
  · rename_i a b
    have ex := rep_str hx; have ey := rep_str hy
    subst ex ey
    unfold binS at h
    split at h <;> try contradiction
    · obtain ⟨h0, hk⟩ := h
      refine Res.same ok hk (u := .string ⟨(a ++ b).toArray⟩) ?_ (mk_str _)
      have h1 : ¬ (9223372036854775807 < ((a.length + b.length : Nat) : Int)) := by omega
      simp only [eqGuard_at_string, binOp, Op.stringOp, pure_bind]
      rw [if_neg (by simpa [ByteArray.size] using h1)]
      simp only [Sem.run_pure]
      congr 2
    all_goals
      refine Res.same ok h ?_ (mk_bool _)
      simp only [eqGuard_at_string, binOp, Op.stringOp, string_toList, beq_list]
      simp
  · exact h.elim

def SzOf (P : Program) (t : TypeId) (sz : Nat) : Prop := ∃ i, P.info? t = some i ∧ i.size = sz
def AggT (P : Program) (t : TypeId) (b : Bool) : Prop := ∃ d, P.underlying t = some d ∧ (match d with | .struct _ | .array _ _ => true | _ => false) = b

theorem run_sizeOf' {t : TypeId} {sz : Nat} (h : SzOf P t sz) (w : World) : (sizeOf t).run P w = .ok sz w := by
  obtain ⟨i, h, rfl⟩ := h
  simp [sizeOf, typeInfo, h]

theorem run_isAgg' {t : TypeId} {b : Bool} (h : AggT P t b) (w : World) : (isAgg t).run P w = .ok b w := by
  obtain ⟨d, h, rfl⟩ := h
  cases d <;> simp [isAgg, run_underlying h]

theorem add_off (b o n : Nat) : (⟨b, o, none⟩ : Addr).add n = ⟨b, o + n, none⟩ := by
  unfold Addr.add; split <;> simp_all

theorem sub_lt {sz sz' off i n m : Nat} (h : i < n) (hn : n * sz ≤ m) (ho : off + sz' ≤ sz) : i * sz + off + sz' ≤ m := by
  have : (i + 1) * sz ≤ n * sz := Nat.mul_le_mul_right _ h
  rw [Nat.succ_mul] at this
  omega

/-- What Rep says of a handle that is live. -/
theorem rep_optr {u : Value} {sz h n i off : Nat} (hr : Rep c u (.optr sz h n i off)) (hl : LiveN c.rows h sz n) :
    ∃ b, c.ρ h = some b ∧ u = .pointer (some ⟨b, i * sz + off, none⟩) := by
  obtain ⟨es, hl, hn⟩ := hl
  cases hr with
  | optr _ _ _ _ _ b es' hrow hn' hρ => exact ⟨b, hρ, rfl⟩
  | optrStale _ _ _ _ _ _ _ hs =>
    rcases hs with hs | ⟨sz', es', hs, hlt⟩
    · rw [hs] at hl; cases hl
    · rw [hs] at hl; injection hl with hl; injection hl with e1 e2; subst e2; omega

theorem rep_osl {u : Value} {sz h n off len : Nat} (hr : Rep c u (.osl sz h n off len)) (hl : LiveN c.rows h sz n) :
    (u = .slice none 0 0 ∧ n = 0 ∧ off = 0 ∧ len = 0 ∧ c.ρ h = none) ∨
    ∃ cap b o arr ty fz, u = .slice (some ⟨b, o, none⟩) len cap ∧ c.ρ h = some b ∧ c.w.heap[b]? = some (.cells arr ty fz) ∧ (o = off * sz ∨ cap = 0) ∧ (off + cap) * sz ≤ arr.size ∧ len ≤ cap ∧ off + len ≤ n := by
  obtain ⟨es, hl, hn⟩ := hl
  cases hr with
  | osl _ _ _ _ _ cap b o es' arr ty fz hrow hn' hρ hb ho hcap hlc hlen => exact .inr ⟨cap, b, o, arr, ty, fz, rfl, hρ, hb, ho, hcap, hlc, hlen⟩
  | oslVirt _ _ hrow hρ => exact .inl ⟨rfl, rfl, rfl, rfl, hρ⟩
  | oslStale _ _ _ _ _ _ _ hs =>
    rcases hs with hs | ⟨sz', es', hs, hlt⟩
    · rw [hs] at hl; cases hl
    · rw [hs] at hl; injection hl with hl; injection hl with e1 e2; subst e2; omega

/-- The cells of a live row as they lie in memory. -/
theorem row_cells (ok : Ok c) {h b sz : Nat} {es : List (List V)} (hrow : c.rows[h]? = some (.live sz es)) (hρ : c.ρ h = some b) :
    ∃ arr ty fz, c.w.heap[b]? = some (.cells arr ty fz) ∧ (∀ i, i < arr.size → ¬ (fz.1 ≤ i ∧ i < fz.2)) ∧ Cont c sz es arr := ok.cont h b sz es hρ hrow

theorem cell_of {w : World} {b o : Nat} {arr : Array Value} {ty : TypeId} {fz : Nat × Nat} (h : w.heap[b]? = some (.cells arr ty fz)) : w.cell? ⟨b, o, none⟩ = arr[o]? := by
  simp [World.cell?, h]

/-- A part of an element, read. -/
theorem cont_at {arr : Array Value} {sz : Nat} {es : List (List V)} (hc : Cont c sz es arr) {i : Nat} {e : List V} (he : es[i]? = some e) {j : Nat} (hj : j < sz) :
    ∃ x v, arr[i * sz + j]? = some x ∧ e[j]? = some v ∧ Rep c x v := by
  have hlen := (hc.1 e (List.mem_of_getElem? he)).1
  have hv : e[j]? = some (e[j]'(by omega)) := List.getElem?_eq_getElem (by omega)
  obtain ⟨x, h1, h2⟩ := hc.2.2 i e j _ he hv
  exact ⟨x, _, h1, hv, h2⟩

/-- A list of cells that represents a list of values. -/
def RepL (c : Cx) (us : List Value) (vs : List V) : Prop := us.length = vs.length ∧ ∀ (j : Nat) (v : V) (x : Value), vs[j]? = some v → us[j]? = some x → Rep c x v

theorem run_loadRow {w : World} (b o n : Nat) (f : Nat → Value) (h : ∀ j, j < n → w.cell? ⟨b, o + j, none⟩ = some (f j)) :
    (loadCells ⟨b, o, none⟩ n).run P w = .ok ((List.range n).map f).toArray w :=
  run_loadCells (P := P) w ⟨b, o, none⟩ n f (fun j hj => by rw [add_off]; exact h j hj)

/-- A result that leaves the world as it is. -/
def Res1 (c : Cx) (r : Result Value) (K : V → List (Nat × RowS) → Prop) : Prop := ∃ v u, K v [] ∧ r = .ok u c.w ∧ Rep c u v

theorem Res1.same {v : V} {u : Value} {r : Result Value} (hk : K v []) (hr : r = .ok u c.w) (hrep : Rep c u v) : Res1 c r K := ⟨v, u, hk, hr, hrep⟩

theorem res_load1 (ok : Ok c) {t : TypeId} {agg : Bool} {sz : Nat} {x : Opd} {ev : Opd → V} {hf : Nat} {u : Value} (hs : SzOf P t sz) (ha : AggT P t agg)
    (hr : Rep c u (ev x)) (h : opW (.load agg sz x) ev c.rows hf K) : Res1 c ((Instr.loadAt t u).run P c.w) K := by
  simp only [opW] at h
  split at h
  · rename_i cs hx
    rw [hx] at hr
    cases hr with | d _ _ hr =>
    cases hr with | ptr _ b off uu hI hcell hrep =>
    cases agg with
    | true =>
      obtain ⟨hle, hk⟩ := h
      have hl := run_loadRow (P := P) (w := c.w) b off sz uu (fun j hj => hcell j (cs[j]'(by omega)) (List.getElem?_eq_getElem (by omega)))
      refine Res1.same hk (u := .agg ((List.range sz).map uu).toArray) ?_ ?_
      · simp [Instr.loadAt, Instr.sureAddr, loadVar, run_isAgg' ha, run_sizeOf' hs, hl]
      · refine .agg _ _ (by simp; omega) (fun j v x h1 h2 => ?_)
        simp only [List.getElem?_map, List.getElem?_take] at h1
        split at h1
        · rename_i hj
          obtain ⟨d, hd, rfl⟩ := Option.map_eq_some_iff.1 h1
          simp [hj] at h2
          subst h2
          exact .d _ _ (hrep j d hd)
        · cases h1
    | false =>
      obtain ⟨hpos, hk⟩ := h
      have h0 : cs[0]? = some (cs[0]'hpos) := List.getElem?_eq_getElem hpos
      refine Res1.same (hk _ h0) (u := uu 0) ?_ (.d _ _ (hrep 0 _ h0))
      have := hcell 0 _ h0
      simp only [Nat.add_zero] at this
      simp [Instr.loadAt, Instr.sureAddr, loadVar, run_isAgg' ha, this]
  · rename_i s hh n i off hx
    rw [hx] at hr
    obtain ⟨hlive, hi, hoff, hk⟩ := h
    obtain ⟨b, hρ, rfl⟩ := rep_optr hr hlive
    obtain ⟨es, hrow, rfl⟩ := hlive
    have he : es[i]? = some (es[i]'hi) := List.getElem?_eq_getElem hi
    obtain ⟨arr, ty, fz, hb, hfz, hc⟩ := row_cells ok hrow hρ
    have hk2 := hk es _ hrow he
    clear hk
    have hel := (hc.1 _ (List.mem_of_getElem? he)).1
    have hcell : ∀ j, j < sz → ∃ x v, arr[i * s + (off + j)]? = some x ∧ (es[i]'hi)[off + j]? = some v ∧ Rep c x v := fun j hj => cont_at hc he (by omega)
    cases agg with
    | true =>
      have hl := run_loadRow (P := P) (w := c.w) b (i * s + off) sz (fun j => arr.getD (i * s + (off + j)) undef) (fun j hj => by
        obtain ⟨x, v, h1, h2, h3⟩ := hcell j hj
        rw [cell_of hb, Nat.add_assoc, h1]
        simp [Array.getD_eq_getD_getElem?, h1])
      refine Res1.same hk2 (u := .agg ((List.range sz).map fun j => arr.getD (i * s + (off + j)) undef).toArray) ?_ ?_
      · simp [Instr.loadAt, Instr.sureAddr, loadVar, run_isAgg' ha, run_sizeOf' hs, hl]
      · refine .agg _ _ (by simp; omega) (fun j v x h1 h2 => ?_)
        have hj : j < sz := by
          have := (List.getElem?_eq_some_iff.1 h1).1
          simp at this; omega
        obtain ⟨x', v', e1, e2, e3⟩ := hcell j hj
        simp [hj] at h1
        rw [e2] at h1; injection h1 with h1; subst h1
        simp [hj, Array.getD_eq_getD_getElem?, e1] at h2
        subst h2
        exact e3
    | false =>
      obtain ⟨rfl, -, hk3⟩ := hk2
      obtain ⟨x', v', e1, e2, e3⟩ := hcell 0 (by omega)
      simp only [Nat.add_zero] at e1 e2
      refine Res1.same (hk3 _ e2) (u := x') ?_ e3
      have : c.w.cell? ⟨b, i * s + off, none⟩ = some x' := by rw [cell_of hb, e1]
      simp [Instr.loadAt, Instr.sureAddr, loadVar, run_isAgg' ha, this]
  · exact h.elim

theorem res_load (ok : Ok c) {t : TypeId} {agg : Bool} {sz : Nat} {x : Opd} {ev : Opd → V} {hf : Nat} {u : Value} (hs : SzOf P t sz) (ha : AggT P t agg)
    (hr : Rep c u (ev x)) (h : opW (.load agg sz x) ev c.rows hf K) : Res c ((Instr.loadAt t u).run P c.w) K := by
  obtain ⟨v, u, hk, he, hr⟩ := res_load1 ok hs ha hr h
  exact Res.same ok hk he hr

end
end Go.Vx
