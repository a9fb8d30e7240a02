import Derived.Test.YtkbjfoodikoppaaDoorVxCode
set_option linter.unusedSectionVars false
set_option linter.unusedSimpArgs false
set_option linter.unusedVariables false
namespace Go.Vx

/-- What a value is when all that is held becomes data. -/
inductive Snap (rows : Rows) : V → V → Prop where
  | any (v : V) : Snap rows v .any
  | d (x : D) : Snap rows (.d x) (.d x)
  | nils (sz : Nat) : Snap rows (.d .nils) (.d (.sl sz []))
  | osl (sz h n off len : Nat) (es : List (List V)) (xs : List (List D)) (hrow : rows[h]? = some (.live sz es)) (hn : es.length = n) (hle : off + len ≤ n)
      (hlen : xs.length = len) (hsz : ∀ x ∈ xs, x.length = sz)
      (hel : ∀ (i j : Nat) (e : List V) (x : List D) (v : V) (y : D), es[off + i]? = some e → xs[i]? = some x → e[j]? = some v → x[j]? = some y → Snap rows v (.d y)) :
      Snap rows (.osl sz h n off len) (.d (.sl sz xs))
  | optr (sz h n i off : Nat) (es : List (List V)) (e : List V) (cs : List D) (hrow : rows[h]? = some (.live sz es)) (hn : es.length = n) (he : es[i]? = some e)
      (hlen : off + cs.length ≤ sz)
      (hel : ∀ (j : Nat) (v : V) (y : D), e[off + j]? = some v → cs[j]? = some y → Snap rows v (.d y)) :
      Snap rows (.optr sz h n i off) (.d (.ptr cs))
  | agg (cs cs' : List V) (hlen : cs.length = cs'.length) (hel : ∀ (j : Nat) (v v' : V), cs[j]? = some v → cs'[j]? = some v' → Snap rows v v') : Snap rows (.agg cs) (.agg cs')
  | tup (cs cs' : List V) (hlen : cs.length = cs'.length) (hel : ∀ (j : Nat) (v v' : V), cs[j]? = some v → cs'[j]? = some v' → Snap rows v v') : Snap rows (.tup cs) (.tup cs')
  | fn (f : Fn) (a b a' b' : List V) (hla : a.length = a'.length) (hlb : b.length = b'.length)
      (ha : ∀ (j : Nat) (v v' : V), a[j]? = some v → a'[j]? = some v' → Snap rows v v') (hb : ∀ (j : Nat) (v v' : V), b[j]? = some v → b'[j]? = some v' → Snap rows v v') : Snap rows (.fn f a b) (.fn f a' b')

section
variable {c : Cx}

theorem snap_rep (ok : Ok c) {v v' : V} (hs : Snap c.rows v v') : ∀ {u : Value}, Rep c u v → Rep (bare (seen c) c.w) u v' := by
  induction hs with
  | any v => exact fun _ => .any _
  | d x => exact fun h => bare_mono (fun b hb => .inl hb) (noH1_bare h rfl)
  | nils sz =>
    intro u h
    cases h with | d _ _ h =>
    cases h
    exact .d _ _ (.slNil _)
  | osl sz g n off len es xs hrow hn hle hlx hsz hel ih =>
    intro u h
    rcases rep_osl h ⟨es, hrow, hn⟩ with ⟨rfl, rfl, rfl, rfl, hρ⟩ | ⟨cap, b, o, arr, ty, fz, rfl, hρ, hb, ho, hcap, hlc, hlen⟩
    · have hes : xs = [] := List.eq_nil_of_length_eq_zero hlx
      subst hes
      exact .d _ _ (.slNil _)
    · obtain ⟨arr', ty', fz', hb', hfz, hc⟩ := row_cells ok hrow hρ
      rw [hb] at hb'; injection hb' with hb'; injection hb' with e1 e2 e3; subst e1 e2 e3
      by_cases hl0 : len = 0
      · subst hl0
        have hes : xs = [] := List.eq_nil_of_length_eq_zero hlx
        subst hes
        exact .d _ _ (.slEmp _ _ _)
      · have ho' := ho.resolve_right (by omega)
        subst ho'
        have key : ∀ (i j : Nat) (e : List D) (v : D), xs[i]? = some e → e[j]? = some v →
            ∃ x, arr[off * sz + (i * sz + j)]? = some x ∧ RepD (seen c) c.w x v := by
          intro i j x y h1 h2
          have hi : i < len := by have := (List.getElem?_eq_some_iff.1 h1).1; omega
          have hj : j < sz := by have := (List.getElem?_eq_some_iff.1 h2).1; have := hsz x (List.mem_of_getElem? h1); omega
          have h3 : es[off + i]? = some es[off + i] := List.getElem?_eq_getElem (by omega)
          have hez := (hc.1 _ (List.mem_of_getElem? h3)).1
          have h4 : es[off + i][j]? = some (es[off + i][j]'(by omega)) := List.getElem?_eq_getElem (by omega)
          obtain ⟨u, hu, hr⟩ := hc.2.2 _ _ _ _ h3 h4
          refine ⟨u, by rw [Nat.add_mul, Nat.add_assoc] at hu; exact hu, ?_⟩
          have := ih i j _ x _ y h3 h1 h4 h2 hr
          cases this with | d _ _ h => exact h
        have hrep := RepD.sl (I := seen c) (w := c.w) sz xs b (off * sz) cap (fun i j => arr.getD (off * sz + (i * sz + j)) undef) (by omega) (.inr ⟨g, hρ⟩) hsz
          (fun i e j v h1 h2 => by
            obtain ⟨x, hx, _⟩ := key i j e v h1 h2
            rw [cell_of hb, hx]
            simp [Array.getD_eq_getD_getElem?, hx])
          (fun i e j v h1 h2 => by
            obtain ⟨x, hx, hr⟩ := key i j e v h1 h2
            simpa [Array.getD_eq_getD_getElem?, hx] using hr)
        rw [hlx] at hrep
        exact .d _ _ hrep
  | optr sz g n i off es e cs hrow hn he hlen hel ih =>
    intro u h
    obtain ⟨b, hρ, rfl⟩ := rep_optr h ⟨es, hrow, hn⟩
    obtain ⟨arr, ty, fz, hb, hfz, hc⟩ := row_cells ok hrow hρ
    have hez := (hc.1 _ (List.mem_of_getElem? he)).1
    have key : ∀ (j : Nat) (y : D), cs[j]? = some y → ∃ x, arr[i * sz + (off + j)]? = some x ∧ RepD (seen c) c.w x y := by
      intro j y h2
      have hj : off + j < e.length := by have := (List.getElem?_eq_some_iff.1 h2).1; omega
      have h4 : e[off + j]? = some e[off + j] := List.getElem?_eq_getElem hj
      obtain ⟨u, hu, hr⟩ := hc.2.2 _ _ _ _ he h4
      refine ⟨u, hu, ?_⟩
      have := ih j _ y h4 h2 hr
      cases this with | d _ _ h => exact h
    refine .d _ _ (RepD.ptr (I := seen c) (w := c.w) cs b (i * sz + off) (fun j => arr.getD (i * sz + (off + j)) undef) (.inr ⟨g, hρ⟩) (fun j v h1 => ?_) (fun j v h1 => ?_))
    · obtain ⟨x, hx, _⟩ := key j v h1
      rw [cell_of hb, Nat.add_assoc, hx]
      simp [Array.getD_eq_getD_getElem?, hx]
    · obtain ⟨x, hx, hr⟩ := key j v h1
      simpa [Array.getD_eq_getD_getElem?, hx] using hr
  | agg cs cs' hl hel ih =>
    intro u h
    cases h with | agg vs _ hlen hrep =>
    refine .agg vs cs' (by omega) fun j v' x h1 h2 => ?_
    have hj : j < cs.length := by have := (List.getElem?_eq_some_iff.1 h1).1; omega
    exact ih j _ v' (List.getElem?_eq_getElem hj) h1 (hrep j _ x (List.getElem?_eq_getElem hj) h2)
  | tup cs cs' hl hel ih =>
    intro u h
    cases h with | tup vs _ hlen hrep =>
    refine .tup vs cs' (by omega) fun j v' x h1 h2 => ?_
    have hj : j < cs.length := by have := (List.getElem?_eq_some_iff.1 h1).1; omega
    exact ih j _ v' (List.getElem?_eq_getElem hj) h1 (hrep j _ x (List.getElem?_eq_getElem hj) h2)
  | fn f a b a' b' hla hlb ha hb iha ihb =>
    intro u h
    cases h with | fn _ fs cps _ _ hf hc hfr hcr =>
    refine .fn f fs cps a' b' (by omega) (by omega) (fun j v' x h1 h2 => ?_) (fun j v' x h1 h2 => ?_)
    · have hj : j < a.length := by have := (List.getElem?_eq_some_iff.1 h1).1; omega
      exact iha j _ v' (List.getElem?_eq_getElem hj) h1 (hfr j _ x (List.getElem?_eq_getElem hj) h2)
    · have hj : j < b.length := by have := (List.getElem?_eq_some_iff.1 h1).1; omega
      exact ihb j _ v' (List.getElem?_eq_getElem hj) h1 (hcr j _ x (List.getElem?_eq_getElem hj) h2)

end

/-- The results of a function. -/
inductive RS where
  | tmp (t : Nat)
  | cell (a : Nat) (agg : Bool) (sz : Nat)
  deriving Inhabited

def retW : List RS → St → (List V → Prop) → Prop
  | [], _, K => K []
  | .tmp t :: l, S, K => retW l S fun vs => K (nth S.fr t :: vs)
  | .cell a agg sz :: l, S, K => opW (.load agg sz (.t a)) (Opd.ev S.fr) S.rows 0 fun v _ => retW l S fun vs => K (v :: vs)

def tupOf : List V → V
  | [v] => v
  | vs => .tup vs

def retQ (rs : List RS) (v : V) : AX → St → Prop
  | .normal, S => retW rs S fun vs => Snap S.rows (tupOf vs) v
  | .ret, S => retW rs S fun vs => Snap S.rows (tupOf vs) v
  | _, _ => False

def compRS (P : Program) : ResultVar → Option RS
  | .tmp t => some (.tmp t)
  | .cell a t => (aggOf P t).bind fun ag => (szOf P t).map fun sz => .cell a ag sz

theorem nth_eq (l : List V) (i : Nat) : nth l i = (l[i]?).getD .any := by
  induction l generalizing i with
  | nil => rfl
  | cons x l ih => cases i with
    | zero => rfl
    | succ i => simpa [nth] using ih i

def tupU : List Value → Value
  | [u] => u
  | us => .tuple us.toArray

theorem bindRun {α β : Type} {P : Program} {w : World} {x : Sem α} {a : α} (h : x.run P w = .ok a w) (f : α → Sem β) : (x >>= f).run P w = (f a).run P w := by simp [h]

theorem loadAt_var {P : Program} {w : World} {t : TypeId} {a u : Value} (h : (Instr.loadAt t a).run P w = .ok u w) : (do loadVar t (← asAddr a) : Sem Value).run P w = .ok u w := by
  unfold Instr.loadAt Instr.sureAddr at h
  split at h
  · exact h
  · simp at h

theorem retW_sound {P : Program} {c : Cx} (ok : Ok c) {S : St} {tmps : Array Value} (hrows : c.rows = S.rows) (hf : ∀ i, Rep c (tmps.getD i undef) (nth S.fr i)) (g : ResultVar → Sem Value)
    (hg : ∀ t, g (.tmp t) = pure (tmps.getD t undef)) (hg2 : ∀ a t, g (.cell a t) = (do loadVar t (← asAddr (tmps.getD a undef)))) :
    ∀ (l : List ResultVar) (rs : List RS) (acc : List Value) (K : List V → Prop), l.mapM (compRS P) = some rs → retW rs S K →
      ∃ us vs, (List.mapM.loop (m := Sem) g l acc).run P c.w = .ok (acc.reverse ++ us) c.w ∧ K vs ∧ RepL c us vs := by
  intro l
  induction l with
  | nil =>
    intro rs acc K h1 h2
    simp at h1; subst h1
    exact ⟨[], [], by simp [List.mapM.loop], h2, rfl, by simp⟩
  | cons r l ih =>
    intro rs acc K h1 h2
    simp only [List.mapM_cons, Option.bind_eq_bind, Option.pure_def] at h1
    obtain ⟨r', hr, h1⟩ := Option.bind_eq_some_iff.1 h1
    obtain ⟨rs', hrs, h1⟩ := Option.bind_eq_some_iff.1 h1
    injection h1 with h1; subst h1
    have fin : ∀ (u : Value) (v : V), (g r).run P c.w = .ok u c.w → Rep c u v → retW rs' S (fun vs => K (v :: vs)) →
        ∃ us vs, (List.mapM.loop (m := Sem) g (r :: l) acc).run P c.w = .ok (acc.reverse ++ us) c.w ∧ K vs ∧ RepL c us vs := by
      intro u v hu hrep hw
      obtain ⟨us, vs, e1, e2, e3⟩ := ih rs' (u :: acc) _ hrs hw
      refine ⟨u :: us, v :: vs, ?_, e2, by simpa using e3.1, fun j v' x h1 h2 => ?_⟩
      · simp only [List.mapM.loop]
        rw [bindRun hu]
        simpa using e1
      · cases j with
        | zero => simp at h1 h2; subst h1 h2; exact hrep
        | succ j => exact e3.2 j v' x (by simpa using h1) (by simpa using h2)
    cases r with
    | tmp t =>
      simp only [compRS] at hr
      injection hr with hr; subst hr
      refine fin (tmps.getD t undef) _ ?_ (hf t) h2
      rw [hg]; rfl
    | cell a t =>
      simp only [compRS] at hr
      obtain ⟨ag, ha, hr⟩ := Option.bind_eq_some_iff.1 hr
      obtain ⟨sz, hs, rfl⟩ := Option.map_eq_some_iff.1 hr
      simp only [retW] at h2
      obtain ⟨v, u, hk, he, hrep⟩ := res_load1 (P := P) ok (szOf_spec hs) (aggOf_spec ha) (x := .t a) (ev := Opd.ev S.fr) (hf := 0) (hf a) (by rw [hrows]; exact h2)
      refine fin u v ?_ hrep hk
      rw [hg2]
      exact loadAt_var he

theorem results_run {P : Program} {c : Cx} (ok : Ok c) {S : St} {tmps : Array Value} {fn : Func} {rs : List RS} {K : List V → Prop} (hr : fn.results.toList.mapM (compRS P) = some rs) (hrows : c.rows = S.rows)
    (hf : ∀ i, Rep c (tmps.getD i undef) (nth S.fr i)) (hw : retW rs S K) : ∃ us vs, (results fn tmps).run P c.w = .ok (tupU us) c.w ∧ K vs ∧ RepL c us vs := by
  obtain ⟨us, vs, e1, e2, e3⟩ := retW_sound ok hrows hf (fun | .tmp t => pure (tmps.getD t undef) | .cell a t => do loadVar t (← asAddr (tmps.getD a undef))) (fun _ => rfl) (fun _ _ => rfl) fn.results.toList rs [] K hr hw
  refine ⟨us, vs, ?_, e2, e3⟩
  have hgen : ∀ (g : ResultVar → Sem Value), (∀ t, g (.tmp t) = pure (tmps.getD t undef)) → (∀ a t, g (.cell a t) = (do loadVar t (← asAddr (tmps.getD a undef)))) → (Array.mapM g fn.results).run P c.w = .ok us.toArray c.w := by
    intro g hg hg2
    obtain ⟨us', vs', e1', -, -⟩ := retW_sound ok hrows hf g hg hg2 fn.results.toList rs [] K hr hw
    have hgg : g = (fun | .tmp t => pure (tmps.getD t undef) | .cell a t => do loadVar t (← asAddr (tmps.getD a undef))) := by
      funext r; cases r with
      | tmp t => exact hg t
      | cell a t => exact hg2 a t
    rw [hgg]
    have h0 := List.mapM_toArray (m := Sem) (l := fn.results.toList) (f := fun | ResultVar.tmp t => pure (tmps.getD t undef) | .cell a t => do loadVar t (← asAddr (tmps.getD a undef)))
    rw [Array.toArray_toList] at h0
    rw [h0]
    simp only [List.mapM, Sem.run_map, e1]
    rfl
  unfold results
  rw [bindRun (hgen _ (fun _ => rfl) (fun _ _ => rfl))]
  match us with
  | [] => rfl
  | [u] => rfl
  | a :: b :: l => rfl

/-- a block that is nobody's changes -/
theorem Rep.same {c c' : Cx} (hρ : c'.ρ = c.ρ) (hr : c'.rows = c.rows) (hI : c'.I = c.I) (hb : ∀ b, c.I b → c'.w.heap[b]? = c.w.heap[b]?) (ho : ∀ h b, c.ρ h = some b → c'.w.heap[b]? = c.w.heap[b]?) {v : Value} {x : V} (h : Rep c v x) : Rep c' v x := by
  induction h with
  | any v => exact .any v
  | d v x h => exact .d v x (h.mono (fun b hb => by rw [hI]; exact hb) hb)
  | osl sz h n off len cap b o es arr ty fz hrow hn h1 h2 ho1 hcap hlc hlen => exact .osl sz h n off len cap b o es arr ty fz (by rw [hr]; exact hrow) hn (by rw [hρ]; exact h1) ((ho h b h1).trans h2) ho1 hcap hlc hlen
  | oslVirt sz h hrow h1 => exact .oslVirt sz h (by rw [hr]; exact hrow) (by rw [hρ]; exact h1)
  | oslStale v sz h n off len hv hs => exact .oslStale v sz h n off len hv (by rw [hr]; exact hs)
  | optr sz h n i off b es hrow hn h1 => exact .optr sz h n i off b es (by rw [hr]; exact hrow) hn (by rw [hρ]; exact h1)
  | optrStale v sz h n i off hv hs => exact .optrStale v sz h n i off hv (by rw [hr]; exact hs)
  | oh v h k b o hrow h1 hv h2 h3 => exact .oh v h k b o (by rw [hr]; exact hrow) (by rw [hρ]; exact h1) hv h2 h3
  | agg vs cs hlen hrep ih => exact .agg vs cs hlen ih
  | tup vs cs hlen hrep ih => exact .tup vs cs hlen ih
  | fn f fs cps first cap hf hc hfr hcr ih1 ih2 => exact .fn f fs cps first cap hf hc ih1 ih2
theorem nob_put {c0 c : Cx} (ok : Ok c) (hx : Ext c0 c) {D : Nat} (hn : c0.w.heap.size ≤ D) (hρ : ∀ h, c.ρ h ≠ some D) (hI : ¬ c.I D) (o : Obj) :
    Ok ⟨c.ρ, c.I, c.rows, c.w.putObj D o⟩ ∧ Ext c0 ⟨c.ρ, c.I, c.rows, c.w.putObj D o⟩ ∧ ∀ v x, Rep c v x → Rep ⟨c.ρ, c.I, c.rows, c.w.putObj D o⟩ v x := by
  have hoth : ∀ b, b ≠ D → (c.w.putObj D o).heap[b]? = c.w.heap[b]? := fun b hb => World.putObj_heap_other hb
  have hsz : (c.w.putObj D o).heap.size = c.w.heap.size := by simp [World.putObj]
  have hb1 : ∀ b, c.I b → (c.w.putObj D o).heap[b]? = c.w.heap[b]? := fun b hb => hoth b (fun e => hI (e ▸ hb))
  have hb2 : ∀ h b, c.ρ h = some b → (c.w.putObj D o).heap[b]? = c.w.heap[b]? := fun h b hb => hoth b (fun e => hρ h (e ▸ hb))
  have hrep : ∀ v x, Rep c v x → Rep ⟨c.ρ, c.I, c.rows, c.w.putObj D o⟩ v x := fun v x h => Rep.same (c := c) (c' := ⟨c.ρ, c.I, c.rows, c.w.putObj D o⟩) rfl rfl rfl hb1 hb2 h
  refine ⟨⟨ok.inj, fun h b hb => ?_, fun h b sz es hb hr => ?_, ok.virt, fun b hb => ?_, ⟨fun h o1 hr => ?_, ?_⟩⟩, ⟨hx.os, hx.tape, hx.output, ?_, fun b hb hh => ?_, hx.imm, hx.newI, hx.new, fun h => ?_⟩, hrep⟩
  · obtain ⟨h1, h2, h3⟩ := ok.own h b hb
    exact ⟨by simp only; rw [hsz]; exact h1, h2, h3⟩
  · obtain ⟨arr, ty, fz, h1, h2, h3, h4, h5⟩ := ok.cont h b sz es hb hr
    refine ⟨arr, ty, fz, (hb2 h b hb).trans h1, h2, h3, h4, fun i e j v h6 h7 => ?_⟩
    obtain ⟨x, h8, h9⟩ := h5 i e j v h6 h7
    exact ⟨x, h8, hrep _ _ h9⟩
  · simp only; rw [hsz]; exact ok.imm b hb
  · obtain ⟨b, h1, h2⟩ := ok.g.gob h o1 hr
    exact ⟨b, h1, h2.same (hb2 h b h1)⟩
  · exact ok.g.glob.mono (fun _ h => h) hb1
  · simp only; rw [hsz]; exact hx.size
  · simp only
    rw [hoth b (by omega)]
    exact hx.keep b hb hh
  · have hr := hx.rows h
    unfold RowStep at hr ⊢
    split
    · trivial
    · rename_i e; rw [e] at hr; exact hr
    · rename_i e; rw [e] at hr; exact hr
    · rename_i e; rw [e] at hr; exact hr
    · rename_i sz es e
      rw [e] at hr
      rcases hr with hr | ⟨es', h1, hr | ⟨h2, h3, h4⟩⟩
      · exact .inl hr
      · exact .inr ⟨es', h1, .inl hr⟩
      · refine .inr ⟨es', h1, .inr ⟨h2, h3, fun b arr ty fz hb hc => ?_⟩⟩
        obtain ⟨arr', fz', h5, h6⟩ := h4 b arr ty fz hb hc
        exact ⟨arr', fz', (hb2 h b (h3.trans hb)).trans h5, h6⟩
theorem leaves_marks {P : Program} {fn : Func} {R : Ending → World → Prop} {c0 : Cx} {S : St} {tmps : Array Value} (fin : ∀ w, Sat c0 S { tmps, defers := [] } w → ∃ v, (results fn tmps).run P w = .ok v w ∧ R (.returned v) w) :
    ∀ (ds : List Deferred) (w : World), Sat c0 S { tmps, defers := ds } w → LeavesInM Fence.wide 0 P fn tmps R ds .returning w
  | [], w, hs => fin w hs
  | d :: ds, w, ⟨ρ, I, ok, hx, hd, hl, hf⟩ => by
    obtain ⟨⟨D, h1, h2, h3, h4, h5, h6⟩, hds⟩ := hd
    obtain ⟨k1, k2, k3⟩ := nob_put (c := ⟨ρ, I, S.rows, w⟩) ok hx h2 h4 h5 (.deferred none)
    refine ⟨by simp, .inl ⟨D, _, by rw [h1], run_takeDeferred h3, leaves_marks fin ds _ ⟨ρ, I, k1, k2, ?_, hl, fun i => k3 _ _ (hf i)⟩⟩⟩
    clear hf fin k3 k1 k2 hl
    revert h6 hds
    simp only
    generalize hw' : w.putObj D (.deferred none) = w'
    induction ds with
    | nil => intros; trivial
    | cons d' ds ih =>
      rintro ⟨⟨D', e1, e2, e3, e4, e5, e6⟩, hds⟩ h6
      refine ⟨⟨D', e1, e2, ?_, e4, e5, e6⟩, ih hds (fun d hd => h6 d (List.mem_cons_of_mem _ hd))⟩
      have hne : D' ≠ D := fun e => h6 d' List.mem_cons_self (by rw [e1, e])
      simp only
      rw [← hw', World.putObj_heap_other hne]
      exact e3
/-- a call, out of its walk: marks of loops are taken at the end -/
theorem calls_of_sat {P : Program} {f : FuncId} {fn : Func} {code : Code} {args : Array Value} {w : World} {R : Ending → World → Prop} (hf : P.funcs[f]? = some fn) (hb : fn.body = some code) (c0 : Cx)
    (h : code.wp P (fun e a w => match e with
      | .normal => ∃ S, Sat c0 S a w ∧ ∀ a' w', Sat c0 S a' w' → ∃ v, (results fn a'.tmps).run P w' = .ok v w' ∧ R (.returned v) w'
      | .ret => ∃ S, Sat c0 S a w ∧ ∀ a' w', Sat c0 S a' w' → ∃ v, (results fn a'.tmps).run P w' = .ok v w' ∧ R (.returned v) w'
      | _ => False) { tmps := args ++ Array.replicate (fn.ntmps - args.size) undef, defers := [] } w) : Calls P f args w R := by
  refine (callsIn_wide (n := 0)).1 (callsIn_of_wp_marks hf hb trivial (wpIn_wide.2 (wp_mono h fun e a w' hq => ?_)) rfl)
  cases e with
  | normal => obtain ⟨S, hs, hq⟩ := hq; exact leaves_marks (S := S) (c0 := c0) (tmps := a.tmps) (fun w h => hq { tmps := a.tmps, defers := [] } _ h) a.defers w' hs
  | ret => obtain ⟨S, hs, hq⟩ := hq; exact leaves_marks (S := S) (c0 := c0) (tmps := a.tmps) (fun w h => hq { tmps := a.tmps, defers := [] } _ h) a.defers w' hs
  | exit i => exact hq.elim
  | goto l => exact hq.elim
  | panic ch => exact hq.elim
  | outgrown => exact hq.elim

section
variable {P : Program}

theorem callP_of {f : FuncId} {fn : Func} {code : Code} {ac : AC} {vals : List V} {v : V} {rs : List RS} (hf : P.funcs[f]? = some fn) (hname : (fn.name == "runtime.NumGoroutine") = false)
    (hb : fn.body = some code) (hr : fn.results.toList.mapM (compRS P) = some rs) (n : Nat) (hn : fn.ntmps = n) (hc : compC P code = some ac.erase)
    (hw : wpC P 0 ac (retQ rs v) ⟨vals ++ List.replicate (n - vals.length) (.tup []), []⟩) : CallP P f vals v := by
  refine ⟨⟨fn, hf, hname, by rw [hb]; rfl⟩, fun I w args ok hargs => calls_of_sat hf hb (bare I w) ?_⟩
  have hsat : Sat (bare I w) ⟨vals ++ List.replicate (n - vals.length) (.tup []), []⟩ { tmps := args ++ Array.replicate (fn.ntmps - args.size) undef, defers := [] } w := by
    have hlen : args.size = vals.length := by simpa using hargs.1
    refine ⟨fun _ => none, I, ok, Ext.refl _, trivial, by simp [hn]; omega, fun i => ?_⟩
    by_cases hi : i < vals.length
    · have h1 : nth (vals ++ List.replicate (n - vals.length) (.tup [])) i = vals[i] := by
        rw [nth_eq, List.getElem?_append_left hi, List.getElem?_eq_getElem hi]; rfl
      rw [h1]
      refine bare_lift (hargs.2 i _ _ (List.getElem?_eq_getElem hi) ?_) _ _
      rw [Array.getD_eq_getD_getElem?, Array.getElem?_append_left (by omega)]; simp [hlen, hi]
    · have h1 : nth (vals ++ List.replicate (n - vals.length) (.tup [])) i = if i < n then .tup [] else .any := by
        rw [nth_eq, List.getElem?_append_right (by omega), List.getElem?_replicate]
        by_cases h : i < n
        · simp [show i - vals.length < n - vals.length by omega, h]
        · simp [show ¬ i - vals.length < n - vals.length by omega, h]
      rw [h1]
      split
      · have : (args ++ Array.replicate (fn.ntmps - args.size) undef).getD i undef = undef := by
          rw [Array.getD_eq_getD_getElem?, Array.getElem?_append_right (by omega), Array.getElem?_replicate]
          split <;> rfl
        rw [this]
        exact .tup #[] [] rfl (by simp)
      · exact .any _
  have hb0 : (bare I w).rows.length = 0 := rfl
  refine wp_mono (wpC_sound hb0 trivial ac code _ _ _ w hc hw hsat) fun e a' w' hq => ?_
  have fin : ∀ S a' w', Sat (bare I w) S a' w' → (retW rs S fun vs => Snap S.rows (tupOf vs) v) → ∃ u, (results fn a'.tmps).run P w' = .ok u w' ∧ ∃ u' I', Ending.returned u = .returned u' ∧ Ok (bare I' w') ∧ Ext (bare I w) (bare I' w') ∧ Rep (bare I' w') u' v := by
    rintro S a' w' ⟨ρ, I', ok', hx, hd, hl, hfr⟩ hs
    obtain ⟨us, vs, e1, e2, e3⟩ := results_run (c := ⟨ρ, I', S.rows, w'⟩) ok' hr rfl hfr hs
    refine ⟨_, e1, _, seen ⟨ρ, I', S.rows, w'⟩, rfl, seen_ok ok', ?_, ?_⟩
    · refine ⟨hx.os, hx.tape, hx.output, hx.size, fun b hb _ => hx.keep b hb (by simp [bare]), fun b h => .inl (hx.imm b h), fun b h => ?_, fun h b hb => by simp [bare] at hb, fun h => by unfold RowStep; simp [bare]⟩
      rcases h with h | ⟨g, h⟩
      · exact hx.newI b h
      · rcases hx.new g b h with h | h
        · simp [bare] at h
        · exact .inr (.inl h)
    · refine snap_rep (c := ⟨ρ, I', S.rows, w'⟩) ok' e2 ?_
      obtain ⟨e3, e4⟩ := e3
      match us, vs, e3 with
      | [u], [v], _ => exact e4 0 v u rfl rfl
      | [], [], _ => exact .tup #[] [] rfl (by simp)
      | a :: b :: l, a' :: b' :: l', e3 =>
        refine .tup _ _ (by simpa using e3) fun j v x h1 h2 => ?_
        exact e4 j v x h1 (by simpa using h2)
  cases e with
  | normal => obtain ⟨S, hs, hq⟩ := hq; exact ⟨S, hs, fun a w h => fin S a w h hq⟩
  | ret => obtain ⟨S, hs, hq⟩ := hq; exact ⟨S, hs, fun a w h => fin S a w h hq⟩
  | exit i => obtain ⟨S, hs, hq⟩ := hq; exact hq.elim
  | goto l => exact hq.elim
  | panic ch => exact hq.elim
  | outgrown => exact hq.elim

/-- The post of a function that changes the row 0 of its caller. -/
def retM (rs : List RS) (v : V) (sz : Nat) (es' : List (List V)) : AX → St → Prop
  | .normal, S => ∃ S', Weak 1 S S' ∧ S'.rows = [.live sz es'] ∧ retW rs S' fun vs => tupOf vs = v
  | .ret, S => ∃ S', Weak 1 S S' ∧ S'.rows = [.live sz es'] ∧ retW rs S' fun vs => tupOf vs = v
  | _, _ => False

/-- The post of a call that is looked into. -/
def retI (rs : List RS) (K : V → Rows → Prop) : AX → St → Prop
  | .normal, S => retW rs S fun vs => K (tupOf vs) S.rows
  | .ret, S => retW rs S fun vs => K (tupOf vs) S.rows
  | _, _ => False

theorem callM_of {f : FuncId} {fn : Func} {code : Code} {ac : AC} {vals : List V} {v : V} {sz : Nat} {es es' : List (List V)} {rs : List RS} (hf : P.funcs[f]? = some fn) (hname : (fn.name == "runtime.NumGoroutine") = false)
    (hb : fn.body = some code) (hr : fn.results.toList.mapM (compRS P) = some rs) (n : Nat) (hn : fn.ntmps = n) (hc : compC P code = some ac.erase)
    (hw : wpC P 1 ac (retM rs v sz es') ⟨vals ++ List.replicate (n - vals.length) (.tup []), [.live sz es]⟩) : CallM P f vals sz es v es' := by
  refine ⟨⟨fn, hf, hname, by rw [hb]; rfl⟩, fun c args ok hrows hargs => calls_of_sat hf hb c ?_⟩
  have hce : c = ⟨c.ρ, c.I, [.live sz es], c.w⟩ := by cases c; simp only at hrows; subst hrows; rfl
  have hsat : Sat c ⟨vals ++ List.replicate (n - vals.length) (.tup []), [.live sz es]⟩ { tmps := args ++ Array.replicate (fn.ntmps - args.size) undef, defers := [] } c.w := by
    have hlen : args.size = vals.length := by simpa using hargs.1
    refine ⟨c.ρ, c.I, by rw [← hce]; exact ok, by rw [← hce]; exact Ext.refl _, trivial, by simp [hn]; omega, fun i => ?_⟩
    rw [← hce]
    by_cases hi : i < vals.length
    · have h1 : nth (vals ++ List.replicate (n - vals.length) (.tup [])) i = vals[i] := by
        rw [nth_eq, List.getElem?_append_left hi, List.getElem?_eq_getElem hi]; rfl
      simp only [h1]
      refine hargs.2 i _ _ (List.getElem?_eq_getElem hi) ?_
      rw [Array.getD_eq_getD_getElem?, Array.getElem?_append_left (by omega)]; simp [hlen, hi]
    · have h1 : nth (vals ++ List.replicate (n - vals.length) (.tup [])) i = if i < n then .tup [] else .any := by
        rw [nth_eq, List.getElem?_append_right (by omega), List.getElem?_replicate]
        by_cases h : i < n
        · simp [show i - vals.length < n - vals.length by omega, h]
        · simp [show ¬ i - vals.length < n - vals.length by omega, h]
      simp only [h1]
      split
      · have : (args ++ Array.replicate (fn.ntmps - args.size) undef).getD i undef = undef := by
          rw [Array.getD_eq_getD_getElem?, Array.getElem?_append_right (by omega), Array.getElem?_replicate]
          split <;> rfl
        rw [this]
        exact .tup #[] [] rfl (by simp)
      · exact .any _
  have hb0 : c.rows.length = 1 := by rw [hrows]; rfl
  refine wp_mono (wpC_sound hb0 trivial ac code _ _ _ c.w hc hw hsat) fun e a' w' hq => ?_
  have fin : ∀ S a' w', Sat c S a' w' → (∃ S', Weak 1 S S' ∧ S'.rows = [.live sz es'] ∧ retW rs S' fun vs => tupOf vs = v) → ∃ u, (results fn a'.tmps).run P w' = .ok u w' ∧
      ∃ u' c', Ending.returned u = .returned u' ∧ w' = c'.w ∧ Ok c' ∧ Ext c c' ∧ c'.rows = [.live sz es'] ∧ Rep c' u' v := by
    rintro S a' w' hs ⟨S', hweak, hrows', hret⟩
    obtain ⟨ρ, I', ok', hx, hd, hl, hfr⟩ := hweak c a' w' hb0 hs
    obtain ⟨us, vs, e1, e2, e3⟩ := results_run (c := ⟨ρ, I', S'.rows, w'⟩) ok' hr rfl hfr hret
    refine ⟨_, e1, _, ⟨ρ, I', S'.rows, w'⟩, rfl, rfl, ok', hx, hrows', ?_⟩
    rw [← e2]
    obtain ⟨e3, e4⟩ := e3
    match us, vs, e3 with
    | [u], [v], _ => exact e4 0 v u rfl rfl
    | [], [], _ => exact .tup #[] [] rfl (by simp)
    | a :: b :: l, a' :: b' :: l', e3 =>
      refine .tup _ _ (by simpa using e3) fun j v x h1 h2 => ?_
      exact e4 j v x h1 (by simpa using h2)
  cases e with
  | normal => obtain ⟨S, hs, hq⟩ := hq; exact ⟨S, hs, fun a w h => fin S a w h hq⟩
  | ret => obtain ⟨S, hs, hq⟩ := hq; exact ⟨S, hs, fun a w h => fin S a w h hq⟩
  | exit i => obtain ⟨S, hs, hq⟩ := hq; exact hq.elim
  | goto l => exact hq.elim
  | panic ch => exact hq.elim
  | outgrown => exact hq.elim

theorem inl_of [CtxPred] {f : FuncId} {fn : Func} {code : Code} {ac : AC} {vals : List V} {rows : Rows} {K : V → Rows → Prop} {rs : List RS} (hf : P.funcs[f]? = some fn) (hname : (fn.name == "runtime.NumGoroutine") = false)
    (hb : fn.body = some code) (hr : fn.results.toList.mapM (compRS P) = some rs) (n : Nat) (hn : fn.ntmps = n) (hc : compC P code = some ac.erase)
    (hw : wpC P rows.length ac (retI rs K) ⟨vals ++ List.replicate (n - vals.length) (.tup []), rows⟩) : InlP P f vals rows K := by
  refine ⟨⟨fn, hf, hname, by rw [hb]; rfl⟩, fun c args ok hG hrows hargs => calls_of_sat hf hb c ?_⟩
  have hce : c = ⟨c.ρ, c.I, rows, c.w⟩ := by cases c; simp only at hrows; subst hrows; rfl
  have hsat : Sat c ⟨vals ++ List.replicate (n - vals.length) (.tup []), rows⟩ { tmps := args ++ Array.replicate (fn.ntmps - args.size) undef, defers := [] } c.w := by
    have hlen : args.size = vals.length := by simpa using hargs.1
    refine ⟨c.ρ, c.I, by rw [← hce]; exact ok, by rw [← hce]; exact Ext.refl _, trivial, by simp [hn]; omega, fun i => ?_⟩
    rw [← hce]
    by_cases hi : i < vals.length
    · have h1 : nth (vals ++ List.replicate (n - vals.length) (.tup [])) i = vals[i] := by
        rw [nth_eq, List.getElem?_append_left hi, List.getElem?_eq_getElem hi]; rfl
      simp only [h1]
      refine hargs.2 i _ _ (List.getElem?_eq_getElem hi) ?_
      rw [Array.getD_eq_getD_getElem?, Array.getElem?_append_left (by omega)]; simp [hlen, hi]
    · have h1 : nth (vals ++ List.replicate (n - vals.length) (.tup [])) i = if i < n then .tup [] else .any := by
        rw [nth_eq, List.getElem?_append_right (by omega), List.getElem?_replicate]
        by_cases h : i < n
        · simp [show i - vals.length < n - vals.length by omega, h]
        · simp [show ¬ i - vals.length < n - vals.length by omega, h]
      simp only [h1]
      split
      · have : (args ++ Array.replicate (fn.ntmps - args.size) undef).getD i undef = undef := by
          rw [Array.getD_eq_getD_getElem?, Array.getElem?_append_right (by omega), Array.getElem?_replicate]
          split <;> rfl
        rw [this]
        exact .tup #[] [] rfl (by simp)
      · exact .any _
  have hb0 : c.rows.length = rows.length := by rw [hrows]
  refine wp_mono (wpC_sound hb0 hG ac code _ _ _ c.w hc hw hsat) fun e a' w' hq => ?_
  have fin : ∀ S a' w', Sat c S a' w' → (retW rs S fun vs => K (tupOf vs) S.rows) → ∃ u, (results fn a'.tmps).run P w' = .ok u w' ∧
      ∃ u' c' v, Ending.returned u = .returned u' ∧ w' = c'.w ∧ Ok c' ∧ Ext c c' ∧ Rep c' u' v ∧ K v c'.rows := by
    rintro S a' w' ⟨ρ, I', ok', hx, hd, hl, hfr⟩ hret
    obtain ⟨us, vs, e1, e2, e3⟩ := results_run (c := ⟨ρ, I', S.rows, w'⟩) ok' hr rfl hfr hret
    refine ⟨_, e1, _, ⟨ρ, I', S.rows, w'⟩, tupOf vs, rfl, rfl, ok', hx, ?_, e2⟩
    obtain ⟨e3, e4⟩ := e3
    match us, vs, e3 with
    | [u], [v], _ => exact e4 0 v u rfl rfl
    | [], [], _ => exact .tup #[] [] rfl (by simp)
    | a :: b :: l, a' :: b' :: l', e3 =>
      refine .tup _ _ (by simpa using e3) fun j v x h1 h2 => ?_
      exact e4 j v x h1 (by simpa using h2)
  cases e with
  | normal => obtain ⟨S, hs, hq⟩ := hq; exact ⟨S, hs, fun a w h => fin S a w h hq⟩
  | ret => obtain ⟨S, hs, hq⟩ := hq; exact ⟨S, hs, fun a w h => fin S a w h hq⟩
  | exit i => obtain ⟨S, hs, hq⟩ := hq; exact hq.elim
  | goto l => exact hq.elim
  | panic ch => exact hq.elim
  | outgrown => exact hq.elim

end
/-- the rows that are live -/
def lives (rows : Rows) : List Nat := (List.range rows.length).filter fun h => match rows[h]? with | some (.live _ _) => true | some (.obj _) => true | _ => false

/-- A call that looks at rows, however deep they lie, and returns a scalar. -/
theorem inl_scal [CtxPred] {P : Program} {f : FuncId} {vals vals' : List V} {v : V} {rows : Rows} {K : V → Rows → Prop} (hl : vals.length = vals'.length) (hs : ∀ (j : Nat) (x x' : V), vals[j]? = some x → vals'[j]? = some x' → Snap rows x x')
    (hsc : scal v = true) (hc : CallP P f vals' v) (hK : K v rows) : InlP P f vals rows K := by
  refine ⟨hc.1, fun c args ok _ hrows hargs => ?_⟩
  subst hrows
  refine (hc.2 (seen c) c.w args (seen_ok ok) ⟨by rw [hargs.1, hl], fun j x' x h1 h2 => ?_⟩).mono ?_
  · have hj : j < vals.length := by rw [hl]; exact (List.getElem?_eq_some_iff.1 h1).1
    have hv : vals[j]? = some vals[j] := List.getElem?_eq_getElem hj
    exact snap_rep ok (hs j _ _ hv h1) (hargs.2 j _ x hv h2)
  · rintro e w' ⟨u, I', he, ok', hx, hr⟩
    have hx2 : Ext (bare c.I c.w) (bare c.I w') := ⟨hx.os, hx.tape, hx.output, hx.size, fun b hb _ => hx.keep b hb (by simp [bare]), fun _ h => h, fun _ h => .inl h, fun h b hb => by simp [bare] at hb, fun h => by unfold RowStep; simp [bare]⟩
    have ok2 : Ok (bare c.I w') := ⟨by simp [bare], by simp [bare], by simp [bare], by simp [bare], fun b hb => Nat.lt_of_lt_of_le (ok.imm b hb) hx.size, bareG (ok.g.glob.mono (fun _ h => h) fun b hb => hx.keep b (ok.imm b hb) (by simp [bare]))⟩
    obtain ⟨h1, h2⟩ := back_ok ok hx2 ok2
    exact ⟨u, _, v, he, rfl, h1, h2, scal_rep hr hsc, hK⟩

/-- A call that takes all rows for good, however deep they lie. -/
theorem inl_kill [CtxPred] {P : Program} {f : FuncId} {vals vals' : List V} {v : V} {rows : Rows} {K : V → Rows → Prop} (hl : vals.length = vals'.length) (hs : ∀ (j : Nat) (x x' : V), vals[j]? = some x → vals'[j]? = some x' → Snap rows x x')
    (hc : CallP P f vals' v) (hK : K v (setRows rows ((lives rows).map fun h => (h, RowS.dead)))) : InlP P f vals rows K := by
  refine ⟨hc.1, fun c args ok _ hrows hargs => ?_⟩
  subst hrows
  obtain ⟨okk, hxk⟩ := kill_ok ok (lives c.rows)
  refine (hc.2 (killC c (lives c.rows)).I c.w args (bare_ok okk) ⟨by rw [hargs.1, hl], fun j x' x h1 h2 => ?_⟩).mono ?_
  · have hj : j < vals.length := by rw [hl]; exact (List.getElem?_eq_some_iff.1 h1).1
    have hv : vals[j]? = some vals[j] := List.getElem?_eq_getElem hj
    refine bare_mono (fun b hb => ?_) (snap_rep ok (hs j _ _ hv h1) (hargs.2 j _ x hv h2))
    rcases hb with hb | ⟨h, hb⟩
    · exact .inl hb
    · obtain ⟨_, _, r, hr, hL⟩ := ok.own h b hb
      refine .inr ⟨h, List.mem_filter.2 ⟨List.mem_range.2 (List.getElem?_eq_some_iff.1 hr).1, by rw [hr]; cases r <;> first | rfl | exact hL.elim⟩, hb⟩
  · rintro e w' ⟨u, I', he, ok', hx, hr⟩
    obtain ⟨h1, h2⟩ := back_ok okk hx ok'
    exact ⟨u, _, v, he, rfl, h1, hxk.trans h2, bare_lift hr _ _, hK⟩

end Go.Vx
