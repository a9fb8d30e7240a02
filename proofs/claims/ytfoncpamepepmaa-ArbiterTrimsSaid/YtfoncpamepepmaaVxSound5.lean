import Derived.Test.YtfoncpamepepmaaVxSound4
import Derived.Laws.StructEq
set_option linter.unusedSimpArgs false
set_option linter.unusedVariables false
namespace Go.Vx
section
variable {P : Program} {c : Cx} {K : V → List (Nat × RowS) → Prop}

theorem equalIn_bool {t : TypeId} (ht : P.underlying t = some .bool) (a b : Bool) (w : World) (n : Nat) : (Op.equalIn (n + 1) t (.bool a) (.bool b)).run P w = .ok (a == b) w := by
  simp [Op.equalIn, run_underlying ht]

theorem res_eqB (ok : Ok c) {op : BinOp} {neg : Bool} {t : TypeId} {x y : Operand} {ax ay : Opd} {ev : Opd → V} {hf : Nat} {ux uy : Value} (ht : P.underlying t = some .bool)
    (hop : op = (if neg then .neq else .eql)) (hx : Rep c ux (ev ax)) (hy : Rep c uy (ev ay)) (h : opW (.eqB neg ax ay) ev c.rows hf K) :
    Res c ((do eqGuard op t x y ux uy; binOp op t ux uy : Sem Value).run P c.w) K := by
  simp only [opW] at h
  split at h
  · rename_i a b e1 e2
    rw [e1] at hx; rw [e2] at hy
    have ex := rep_bool hx; have ey := rep_bool hy
    subst ex ey
    refine Res.same ok h ?_ (mk_bool _)
    have he : (Op.equal t (.bool a) (.bool b)).run P c.w = .ok (a == b) c.w := equalIn_bool ht a b c.w 9999
    cases neg
    · simp only [Bool.false_eq_true, if_false] at hop ⊢
      subst hop
      simp [eqGuard_at_bool, binOp, he]
    · simp only [if_true] at hop ⊢
      subst hop
      simp [eqGuard_at_bool, binOp, he, bne]
  · exact h.elim

/-- The kinds of plain fields that lie one behind the other. -/
def flatK (P : Program) : Nat → List Field → Option (List Nat)
  | _, [] => some []
  | i, f :: fs =>
    if f.offset = i ∧ f.name ≠ "_" then
      (match P.underlying f.type with | some (.int _) => some 0 | some .bool => some 1 | some .string => some 2 | _ => none).bind fun k => (flatK P (i + 1) fs).map (k :: ·)
    else none

theorem eqFields_flat {w : World} (hw : c.w = w) {xs ys : Array Value} {d : Nat} : ∀ (fs : List Field) (i : Nat) (ks : List Nat) (a b : List V) (r : Bool), flatK P i fs = some ks → eqC ks a b = some r →
    (∀ (j : Nat) (v : V), a[j]? = some v → ∃ x, xs[i + j]? = some x ∧ Rep c x v) → (∀ (j : Nat) (v : V), b[j]? = some v → ∃ x, ys[i + j]? = some x ∧ Rep c x v) →
    (Op.eqFields (d + 1) xs ys fs).run P w = .ok r w := by
  intro fs
  induction fs with
  | nil =>
    intro i ks a b r hk he hx hy
    injection hk with hk; subst hk
    unfold eqC at he
    split at he <;> simp_all [Op.eqFields]
  | cons f fs ih =>
    intro i ks a b r hk he hx hy
    simp only [flatK] at hk
    split at hk
    · rename_i hc
      obtain ⟨hoff, hname⟩ := hc
      obtain ⟨k, hk1, hk⟩ := Option.bind_eq_some_iff.1 hk
      obtain ⟨ks', hk2, rfl⟩ := Option.map_eq_some_iff.1 hk
      have htail : ∀ {l : List V} {v0 : V} {zs : Array Value}, (∀ (j : Nat) (v : V), (v0 :: l)[j]? = some v → ∃ x, zs[i + j]? = some x ∧ Rep c x v) → ∀ (j : Nat) (v : V), l[j]? = some v → ∃ x, zs[i + 1 + j]? = some x ∧ Rep c x v := by
        intro l v0 zs h j v hv
        obtain ⟨x, h1, h2⟩ := h (j + 1) v (by simpa using hv)
        exact ⟨x, by rw [show i + 1 + j = i + (j + 1) by omega]; exact h1, h2⟩
      have step : ∀ (u v : Value) (r0 r1 : Bool), xs[i]? = some u → ys[i]? = some v → AggT P f.type false → (Op.equalIn (d + 1) f.type u v).run P w = .ok r0 w → (Op.eqFields (d + 1) xs ys fs).run P w = .ok r1 w → r = (r0 && r1) →
          (Op.eqFields (d + 1) xs ys (f :: fs)).run P w = .ok r w := by
        intro u v r0 r1 hu hv hag h0 h1 hr
        simp only [Op.eqFields, if_pos hname]
        have p1 : (part f.type xs f.offset).run P w = .ok u w := by simp [part, run_isAgg' hag, hoff, hu]
        have p2 : (part f.type ys f.offset).run P w = .ok v w := by simp [part, run_isAgg' hag, hoff, hv]
        simp only [Sem.run_bind, p1, p2, h0, Result.andThen_ok]
        subst hr
        cases r0
        · simp
        · simpa using h1
      unfold eqC at he
      split at he
      · rename_i _ _ h0; cases h0
      · rename_i ks0 kk p l kk' q m h0
        injection h0 with h0 h0'; subst h0 h0'
        split at he
        · rename_i hkk; subst hkk
          obtain ⟨r1, h1, rfl⟩ := Option.map_eq_some_iff.1 he
          obtain ⟨u, hu, hur⟩ := hx 0 _ rfl
          obtain ⟨v, hv, hvr⟩ := hy 0 _ rfl
          have e1 := rep_int hur; have e2 := rep_int hvr; subst e1 e2
          have hut : ∃ k0, P.underlying f.type = some (.int k0) := by
            split at hk1 <;> first | exact ⟨_, by assumption⟩ | (injection hk1 with hk1; cases hk1) | cases hk1
          obtain ⟨k0, hut⟩ := hut
          exact step _ _ _ _ hu hv ⟨_, hut, rfl⟩ (run_equalIn_int w d f.type kk k0 p q hut) (ih _ _ _ _ _ hk2 h1 (htail hx) (htail hy)) (by congr 1)
        · cases he
      · rename_i ks0 p l q m h0
        injection h0 with h0 h0'; subst h0 h0'
        obtain ⟨r1, h1, rfl⟩ := Option.map_eq_some_iff.1 he
        obtain ⟨u, hu, hur⟩ := hx 0 _ rfl
        obtain ⟨v, hv, hvr⟩ := hy 0 _ rfl
        have e1 := rep_bool hur; have e2 := rep_bool hvr; subst e1 e2
        have hut : P.underlying f.type = some .bool := by
          split at hk1 <;> first | assumption | (injection hk1 with hk1; cases hk1) | cases hk1
        exact step _ _ _ _ hu hv ⟨_, hut, rfl⟩ (equalIn_bool hut p q w d) (ih _ _ _ _ _ hk2 h1 (htail hx) (htail hy)) rfl
      · rename_i ks0 p l q m h0
        injection h0 with h0 h0'; subst h0 h0'
        obtain ⟨r1, h1, rfl⟩ := Option.map_eq_some_iff.1 he
        obtain ⟨u, hu, hur⟩ := hx 0 _ rfl
        obtain ⟨v, hv, hvr⟩ := hy 0 _ rfl
        have e1 := rep_str hur; have e2 := rep_str hvr; subst e1 e2
        have hut : P.underlying f.type = some .string := by
          split at hk1 <;> first | assumption | (injection hk1 with hk1; cases hk1) | cases hk1
        refine step _ _ _ _ hu hv ⟨_, hut, rfl⟩ (run_equalIn_string w d f.type _ _ hut) (ih _ _ _ _ _ hk2 h1 (htail hx) (htail hy)) ?_
        congr 1
        rw [ByteArray.toList_eq, ByteArray.toList_eq]
        simp only [List.toList_toArray]
        rw [Bool.eq_iff_iff]; simp
      · cases he
    · cases hk

theorem res_eqS (ok : Ok c) {op : BinOp} {neg : Bool} {ks : List Nat} {t : TypeId} {fs : Array Field} {x y : Operand} {ax ay : Opd} {ev : Opd → V} {hf : Nat} {ux uy : Value} (ht : P.underlying t = some (.struct fs))
    (hks : flatK P 0 fs.toList = some ks) (hst : P.stoodInHeld t = false) (hg : P.eqGuardType P.depth t = false)
    (hop : op = (if neg then .neq else .eql)) (hx : Rep c ux (ev ax)) (hy : Rep c uy (ev ay)) (h : opW (.eqS neg ks ax ay) ev c.rows hf K) :
    Res c ((do eqGuard op t x y ux uy; binOp op t ux uy : Sem Value).run P c.w) K := by
  simp only [opW] at h
  split at h
  · rename_i a b e1 e2
    rw [e1] at hx; rw [e2] at hy
    cases hx with | agg xs _ hlx hrx =>
    cases hy with | agg ys _ hly hry =>
    unfold eqR at h
    split at h
    · rename_i r hr
      refine Res.same ok h ?_ (mk_bool _)
      have hfo : P.fieldsOf t = fs := by simp [Program.fieldsOf, ht]
      have h1 : (Op.eqFields 9999 xs ys fs.toList).run P c.w = .ok r c.w := eqFields_flat (d := 9998) rfl fs.toList 0 ks a b r hks hr
        (fun j v hv => by
          have hj : j < xs.size := by rw [hlx]; exact (List.getElem?_eq_some_iff.1 hv).1
          exact ⟨xs[j], by simp [hj], hrx j v _ hv (by simp [hj])⟩)
        (fun j v hv => by
          have hj : j < ys.size := by rw [hly]; exact (List.getElem?_eq_some_iff.1 hv).1
          exact ⟨ys[j], by simp [hj], hry j v _ hv (by simp [hj])⟩)
      have h2 : (Op.equalIn 10000 t (.agg xs) (.agg ys)).run P c.w = .ok r c.w := by
        rw [run_equalIn_struct c.w 9999 t xs ys (by rw [hfo]; exact ht) hst, hfo]
        exact h1
      cases neg
      · simp only [Bool.false_eq_true, if_false] at hop ⊢
        subst hop
        rw [Sem.run_bind, run_eqGuard_agg c.w _ t x y xs ys hg, Result.andThen_ok, run_eql_struct, h2]
        rfl
      · simp only [if_true] at hop ⊢
        subst hop
        rw [Sem.run_bind, run_eqGuard_agg c.w _ t x y xs ys hg, Result.andThen_ok, run_neq_struct, h2]
        rfl
    · exact h.elim
  · exact h.elim

theorem equalIn_nil {t e : TypeId} (ht : P.underlying t = some (.slice e)) (a : Option Addr) (n k : Nat) (w : World) (m : Nat) : (Op.equalIn (m + 1) t (.slice a n k) (.slice none 0 0)).run P w = .ok a.isNone w := by
  cases a <;> simp [Op.equalIn, run_underlying ht]
theorem res_isNil (ok : Ok c) {op : BinOp} {neg : Bool} {t e : TypeId} {x y : Operand} {ax ay : Opd} {ev : Opd → V} {hf : Nat} {ux uy : Value} (ht : P.underlying t = some (.slice e))
    (hop : op = (if neg then .neq else .eql)) (hx : Rep c ux (ev ax)) (hy : Rep c uy (ev ay)) (h : opW (.isNil neg ax ay) ev c.rows hf K) :
    Res c ((do eqGuard op t x y ux uy; binOp op t ux uy : Sem Value).run P c.w) K := by
  have key : ∀ (a : Option Addr) (n k : Nat), (do eqGuard op t x y (.slice a n k) (.slice none 0 0); binOp op t (.slice a n k) (.slice none 0 0) : Sem Value).run P c.w = .ok (.bool (if neg then !a.isNone else a.isNone)) c.w := by
    intro a n k
    have he : (Op.equal t (.slice a n k) (.slice none 0 0)).run P c.w = .ok a.isNone c.w := equalIn_nil ht a n k c.w 9999
    cases neg
    · simp only [Bool.false_eq_true, if_false] at hop ⊢
      subst hop
      simp [eqGuard_at_slice, binOp, he]
    · simp only [if_true] at hop ⊢
      subst hop
      simp [eqGuard_at_slice, binOp, he]
  simp only [opW] at h
  split at h
  · rename_i e1 e2
    rw [e1] at hx; rw [e2] at hy
    have := rep_nils hy; subst this
    cases hx with | d _ _ hx =>
    cases hx
    exact Res.same ok h (by rw [key]; cases neg <;> rfl) (mk_bool _)
  · rename_i e1 e2
    rw [e1] at hx; rw [e2] at hy
    have := rep_nils hy; subst this
    cases hx with | d _ _ hx =>
    cases hx
    exact Res.same ok h (by rw [key]; cases neg <;> rfl) (mk_bool _)
  · rename_i e1 e2
    rw [e1] at hx; rw [e2] at hy
    have := rep_nils hy; subst this
    have : ∃ a n k, ux = .slice a n k := by
      cases hx with | d _ _ hx =>
      cases hx <;> exact ⟨_, _, _, rfl⟩
    obtain ⟨a, n, k, rfl⟩ := this
    exact Res.same ok h (key _ _ _) (.d _ _ (.boolU _))
  · exact h.elim

theorem res_un (ok : Ok c) {op : UnOp} {x : Opd} {ev : Opd → V} {hf : Nat} {u : Value} (hr : Rep c u (ev x)) (h : opW (.un op x) ev c.rows hf K) :
    Res c ((Op.unary op u).run P c.w) K := by
  simp only [opW] at h
  unfold unW at h
  split at h
  · rename_i k n e; rw [e] at hr
    have := rep_int hr; subst this
    exact Res.same ok h (by simp [Op.unary, Op.intArith]) (mk_int _ _)
  · rename_i k n e; rw [e] at hr
    have := rep_int hr; subst this
    refine Res.same ok h ?_ (mk_int _ _)
    rfl
  · rename_i b e; rw [e] at hr
    have := rep_bool hr; subst this
    exact Res.same ok h (by simp [Op.unary]) (mk_bool _)
  · exact h.elim

theorem res_conv (ok : Ok c) {src dst : TypeId} {k : IntKind} {x : Opd} {ev : Opd → V} {hf : Nat} {u : Value} (hs : ∃ d, P.underlying src = some d) (hd : P.underlying dst = some (.int k))
    (hr : Rep c u (ev x)) (h : opW (.conv k x) ev c.rows hf K) : Res c ((convert src dst u).run P c.w) K := by
  simp only [opW] at h
  split at h
  · rename_i k' n e; rw [e] at hr
    have := rep_int hr; subst this
    obtain ⟨d, hs⟩ := hs
    refine Res.same ok h ?_ (mk_int _ _)
    simp [convert, run_underlying hs, run_underlying hd, Conv.intToInt]
  · exact h.elim

theorem res_same (ok : Ok c) {src dst : TypeId} {x : Opd} {ev : Opd → V} {hf : Nat} {u : Value} (hs : ∃ d, P.underlying src = some d) (hd : P.underlying dst = some .string)
    (hr : Rep c u (ev x)) (h : opW (.same x) ev c.rows hf K) : Res c ((convert src dst u).run P c.w) K := by
  simp only [opW] at h
  split at h
  · rename_i s e; rw [e] at hr
    have := rep_str hr; subst this
    obtain ⟨d, hs⟩ := hs
    refine Res.same ok h ?_ (mk_str _)
    simp [convert, run_underlying hs, run_underlying hd]
  · exact h.elim

theorem res_fldA (ok : Ok c) {s : TypeId} {fs : Array Field} {n off : Nat} {f : Field} {x : Opd} {ev : Opd → V} {hf : Nat} {u : Value} (hs : P.underlying s = some (.struct fs)) (hfld : fs[n]? = some f)
    (ho : f.offset = off) (hsz : ∃ sz, SzOf P f.type sz ∧ sz ≠ 0) (hr : Rep c u (ev x)) (h : opW (.fldA off x) ev c.rows hf K) : Res c ((Instr.fieldAt s u n).run P c.w) K := by
  obtain ⟨sz, hsz, hne⟩ := hsz
  simp only [opW] at h
  split at h
  · rename_i cs e; rw [e] at hr
    cases hr with | d _ _ hr =>
    cases hr with | ptr _ b o uu hI hcell hrep =>
    refine Res.same ok h (u := .pointer (some ⟨b, o + off, none⟩)) ?_ ?_
    · simp [Instr.fieldAt, run_underlying hs, hfld, Instr.sureAddr, fieldPlace, run_sizeOf' hsz, hne, add_off, ho]
    · refine .d _ _ (.ptr _ b (o + off) (fun j => uu (off + j)) hI (fun j v hj => ?_) (fun j v hj => ?_))
      · rw [List.getElem?_drop] at hj
        rw [Nat.add_assoc]; exact hcell _ v hj
      · rw [List.getElem?_drop] at hj
        exact hrep _ v hj
  · rename_i s' hh m i o e; rw [e] at hr
    obtain ⟨hlive, hk⟩ := h
    obtain ⟨b, hρ, rfl⟩ := rep_optr hr hlive
    obtain ⟨es, hrow, hn⟩ := hlive
    refine Res.same ok hk (u := .pointer (some ⟨b, i * s' + (o + off), none⟩)) ?_ (.optr _ _ _ _ _ b es hrow hn hρ)
    simp [Instr.fieldAt, run_underlying hs, hfld, Instr.sureAddr, fieldPlace, run_sizeOf' hsz, hne, add_off, ho, Nat.add_assoc]
  · exact h.elim

theorem rep_take_drop {vs : Array Value} {cs : List V} (hr : Rep c (.agg vs) (.agg cs)) (off sz : Nat) (h : off + sz ≤ cs.length) :
    Rep c (.agg (vs.extract off (off + sz))) (.agg ((cs.drop off).take sz)) := by
  cases hr with | agg _ _ hlen hrep =>
  refine .agg _ _ (by simp; omega) (fun j v x h1 h2 => ?_)
  rw [List.getElem?_take] at h1
  split at h1
  · rw [List.getElem?_drop] at h1
    rw [Array.getElem?_extract] at h2
    split at h2
    · exact hrep _ v x h1 h2
    · cases h2
  · cases h1

theorem res_fld (ok : Ok c) {s : TypeId} {fs : Array Field} {n off sz : Nat} {agg : Bool} {f : Field} {x : Opd} {ev : Opd → V} {hf : Nat} {u : Value} (hs : P.underlying s = some (.struct fs)) (hfld : fs[n]? = some f)
    (ho : f.offset = off) (hsz : SzOf P f.type sz) (ha : AggT P f.type agg) (hr : Rep c u (ev x)) (h : opW (.fld off sz agg x) ev c.rows hf K) : Res c ((Instr.field s u n).run P c.w) K := by
  simp only [opW] at h
  split at h
  · rename_i cs e; rw [e] at hr
    cases hr with | agg vs _ hlen hrep =>
    cases agg with
    | true =>
      obtain ⟨hle, hk⟩ := h
      refine Res.same ok hk ?_ (rep_take_drop (.agg vs cs hlen hrep) off sz hle)
      simp [Instr.field, run_underlying hs, hfld, asAgg, part, run_isAgg' ha, run_sizeOf' hsz, ho]
    | false =>
      obtain ⟨hlt, hk⟩ := h
      have h1 : cs[off]? = some (cs[off]'hlt) := List.getElem?_eq_getElem hlt
      have h2 : vs[off]? = some (vs[off]'(by omega)) := Array.getElem?_eq_getElem (by omega)
      refine Res.same ok (hk _ h1) ?_ (hrep _ _ _ h1 h2)
      simp [Instr.field, run_underlying hs, hfld, asAgg, part, run_isAgg' ha, ho, h2]
  · exact h.elim

theorem int_of {u : Value} {v : V} {K' : Int → Prop} (hr : Rep c u v) (h : intW v K') : ∃ k n, u = .int k n ∧ K' n := by
  unfold intW at h
  split at h
  · rename_i k n; exact ⟨k, n, rep_int hr, h⟩
  · exact h.elim

theorem res_idxA (ok : Ok c) {t e : TypeId} {sz : Nat} {arr : Option Nat} {x i : Opd} {ev : Opd → V} {hf : Nat} {u ui : Value}
    (ht : match arr with | none => P.underlying t = some (.slice e) | some m => P.underlying t = some (.array m e)) (hs : SzOf P e sz) (hr : Rep c u (ev x)) (hi : Rep c ui (ev i)) (h : opW (.idxA sz arr x i) ev c.rows hf K) :
    Res c ((Instr.indexAt t u ui).run P c.w) K := by
  simp only [opW] at h
  obtain ⟨k, j, rfl, h2⟩ := int_of hi h
  clear h
  have h := h2
  clear h2
  split at h
  · rename_i s es e1
    rw [e1] at hr
    obtain ⟨rfl, h0, hlt, hk⟩ := h
    simp only at ht
    have hjl : j.toNat < es.length := by omega
    have hje : es[j.toNat]? = some (es[j.toNat]'hjl) := List.getElem?_eq_getElem hjl
    cases hr with | d _ _ hr =>
    generalize hes : es = es' at *
    cases hr with
    | slNil => subst hes; simp at hjl
    | slEmp => subst hes; simp at hjl
    | sl _ _ b off cap uu hcap hI hsz hcell hrep =>
    refine Res.same ok (hk _ hje) (u := .pointer (some ⟨b, off + j.toNat * s, none⟩)) ?_ ?_
    · simp [Instr.indexAt, asIntOf, run_underlying ht, h0, hlt, run_sizeOf' hs, add_off]
    · refine .d _ _ (.ptr _ b _ (fun m => uu j.toNat m) hI (fun m v hm => ?_) (fun m v hm => hrep _ _ _ v hje hm))
      have := hcell _ _ _ v hje hm
      rwa [Nat.add_assoc]
  · rename_i s hh n off len e1
    rw [e1] at hr
    obtain ⟨rfl, hlive, h0, hlt, hk⟩ := h
    simp only at ht
    rcases rep_osl hr hlive with ⟨rfl, rfl, rfl, rfl, _⟩ | ⟨cap, b, o, arr, ty, fz, rfl, hρ, hb, ho, hcap, hlc, hlen⟩
    · omega
    · obtain ⟨es, hrow, hn⟩ := hlive
      have ho' : o = off * s := ho.resolve_right (by omega)
      subst ho'
      refine Res.same ok hk (u := .pointer (some ⟨b, (off + j.toNat) * s + 0, none⟩)) ?_ (.optr _ _ _ _ _ b es hrow hn hρ)
      simp [Instr.indexAt, asIntOf, run_underlying ht, h0, hlt, run_sizeOf' hs, add_off, Nat.add_mul]
  · rename_i m cs e1
    rw [e1] at hr
    obtain ⟨h0, hlt, hk⟩ := h
    simp only at ht
    cases hr with | d _ _ hr =>
    cases hr with | ptr _ b o uu hI hcell hrep =>
    refine Res.same ok hk (u := .pointer (some ⟨b, o + j.toNat * sz, none⟩)) ?_ ?_
    · simp [Instr.indexAt, asIntOf, run_underlying ht, Instr.sureAddr, h0, hlt, run_sizeOf' hs, add_off]
    · refine .d _ _ (.ptr _ b _ (fun q => uu (j.toNat * sz + q)) hI (fun q v hq => ?_) (fun q v hq => ?_))
      · rw [List.getElem?_drop] at hq
        rw [Nat.add_assoc]; exact hcell _ v hq
      · rw [List.getElem?_drop] at hq
        exact hrep _ v hq
  · rename_i m s' hh n i' o e1
    rw [e1] at hr
    obtain ⟨hlive, h0, hlt, hk⟩ := h
    simp only at ht
    obtain ⟨b, hρ, rfl⟩ := rep_optr hr hlive
    obtain ⟨es, hrow, hn⟩ := hlive
    refine Res.same ok hk (u := .pointer (some ⟨b, i' * s' + (o + j.toNat * sz), none⟩)) ?_ (.optr _ _ _ _ _ b es hrow hn hρ)
    simp [Instr.indexAt, asIntOf, run_underlying ht, Instr.sureAddr, h0, hlt, run_sizeOf' hs, add_off, Nat.add_assoc]
  · exact h.elim

theorem res_idx (ok : Ok c) {t e : TypeId} {sz n : Nat} {agg : Bool} {x i : Opd} {ev : Opd → V} {hf : Nat} {u ui : Value} (ht : P.underlying t = some (.array n e)) (hs : SzOf P e sz) (ha : AggT P e agg)
    (hr : Rep c u (ev x)) (hi : Rep c ui (ev i)) (h : opW (.idx sz n agg x i) ev c.rows hf K) : Res c ((Instr.index t u ui).run P c.w) K := by
  simp only [opW] at h
  obtain ⟨k, j, rfl, h2⟩ := int_of hi h
  clear h
  have h := h2
  clear h2
  split at h
  · rename_i cs e1
    rw [e1] at hr
    obtain ⟨h0, hlt, hcl, h⟩ := h
    cases hr with | agg vs _ hlen hrep =>
    have hm : j.toNat * sz + sz ≤ cs.length := by
      have : (j.toNat + 1) * sz ≤ n * sz := Nat.mul_le_mul_right _ (by omega)
      rw [Nat.succ_mul] at this
      omega
    cases agg with
    | true =>
      refine Res.same ok h ?_ (rep_take_drop (.agg vs cs hlen hrep) _ sz hm)
      simp [Instr.index, asIntOf, run_underlying ht, h0, hlt, run_sizeOf' hs, part, run_isAgg' ha]
    | false =>
      obtain ⟨rfl, hk⟩ := h
      have h1 : cs[j.toNat]? = some (cs[j.toNat]'(by omega)) := List.getElem?_eq_getElem _
      have h2 : vs[j.toNat]? = some (vs[j.toNat]'(by omega)) := Array.getElem?_eq_getElem _
      refine Res.same ok (hk _ h1) ?_ (hrep _ _ _ h1 h2)
      simp [Instr.index, asIntOf, run_underlying ht, h0, hlt, run_sizeOf' hs, part, run_isAgg' ha, h2]
  · exact h.elim

theorem res_idxS (ok : Ok c) {t : TypeId} {x i : Opd} {ev : Opd → V} {hf : Nat} {u ui : Value} (ht : P.underlying t = some .string)
    (hr : Rep c u (ev x)) (hi : Rep c ui (ev i)) (h : opW (.idxS x i) ev c.rows hf K) : Res c ((Instr.index t u ui).run P c.w) K := by
  simp only [opW] at h
  obtain ⟨k, j, rfl, h2⟩ := int_of hi h
  clear h
  have h := h2
  clear h2
  split at h
  · rename_i s e1
    rw [e1] at hr
    obtain ⟨h0, hlt, hk⟩ := h
    have := rep_str hr; subst this
    have h1 : s[j.toNat]? = some (s[j.toNat]'(by omega)) := List.getElem?_eq_getElem _
    refine Res.same ok (hk _ h1) ?_ (mk_int _ _)
    have hg : (⟨s.toArray⟩ : ByteArray)[j.toNat]? = some (s[j.toNat]'(by omega)) := by
      rw [getElem?_pos (⟨s.toArray⟩ : ByteArray) j.toNat (by simp [ByteArray.size]; omega)]
      rfl
    simp [Instr.index, asIntOf, run_underlying ht, h0, hg]
  · exact h.elim

theorem res_ext (ok : Ok c) {x : Opd} {n : Nat} {ev : Opd → V} {hf : Nat} {u : Value} (hr : Rep c u (ev x)) (h : opW (.ext x n) ev c.rows hf K) : Res c ((Instr.extract u n).run P c.w) K := by
  simp only [opW] at h
  split at h
  · rename_i vs e1
    rw [e1] at hr
    obtain ⟨hlt, hk⟩ := h
    cases hr with | tup us _ hlen hrep =>
    have h1 : vs[n]? = some (vs[n]'hlt) := List.getElem?_eq_getElem _
    have h2 : us[n]? = some (us[n]'(by omega)) := Array.getElem?_eq_getElem _
    refine Res.same ok (hk _ h1) ?_ (hrep _ _ _ h1 h2)
    simp [Instr.extract, h2]
  · exact h.elim

theorem res_mn (ok : Ok c) {t : Array TypeId} {ty : TypeId} {x y : Opd} {ev : Opd → V} {hf : Nat} {ux uy : Value} (hx : Rep c ux (ev x)) (hy : Rep c uy (ev y)) (h : opW (.mn x y) ev c.rows hf K) :
    Res c ((Builtin.min_ t ty #[ux, uy]).run P c.w) K := by
  simp only [opW] at h
  split at h
  · rename_i k a k' b e1 e2
    rw [e1] at hx; rw [e2] at hy
    have ex := rep_int hx; have ey := rep_int hy
    subst ex ey
    refine Res.same ok h ?_ (mk_int _ _)
    simp [Builtin.min_, Builtin.min2]
  · exact h.elim

theorem res_mx (ok : Ok c) {t : Array TypeId} {ty : TypeId} {x y : Opd} {ev : Opd → V} {hf : Nat} {ux uy : Value} (hx : Rep c ux (ev x)) (hy : Rep c uy (ev y)) (h : opW (.mx x y) ev c.rows hf K) :
    Res c ((Builtin.max_ t ty #[ux, uy]).run P c.w) K := by
  simp only [opW] at h
  split at h
  · rename_i k a k' b e1 e2
    rw [e1] at hx; rw [e2] at hy
    have ex := rep_int hx; have ey := rep_int hy
    subst ex ey
    refine Res.same ok h ?_ (mk_int _ _)
    simp [Builtin.max_, Builtin.max2]
  · exact h.elim

end
end Go.Vx
