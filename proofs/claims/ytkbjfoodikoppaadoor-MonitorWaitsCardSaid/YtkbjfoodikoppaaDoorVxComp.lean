import Derived.Test.YtkbjfoodikoppaaDoorVxSound
set_option linter.unusedSectionVars false
set_option linter.unusedSimpArgs false
set_option linter.unusedVariables false
namespace Go.Vx

def szOf (P : Program) (t : TypeId) : Option Nat := (P.info? t).map (·.size)
def byOf (P : Program) (t : TypeId) : Option Nat := (P.info? t).map (·.bytes)
def aggOf (P : Program) (t : TypeId) : Option Bool := (P.underlying t).map fun d => match d with | .struct _ | .array _ _ => true | _ => false

def absD : Value → Option D
  | .int k n => some (.int k n)
  | .bool b => some (.bool b)
  | .string s => some (.str s.data.toList)
  | .slice none 0 0 => some .nils
  | .pointer none => some .nilp
  | _ => none

def absV : Value → Option V
  | .agg cs => (cs.toList.mapM absD).map fun l => .agg (l.map .d)
  | v => (absD v).map .d

def compOpd : Operand → Option Opd
  | .tmp t => some (.t t)
  | .const v => some (.k ((absV v).getD .any))
  | .func f => some (.k (.fn (.func f) [] []))
  | .global g => if g = 0 then some (.k (.d (.ptr [kwD]))) else none

def compOpt : Option Operand → Option (Option Opd)
  | none => some none
  | some x => (compOpd x).map some

def zeroOf (P : Program) (t : TypeId) : Option (List D) :=
  (P.info? t).bind fun i => i.zero.bind fun z => (z.cells.toList.mapM absD).bind fun l => if i.size = l.length then some l else none

def slOf (P : Program) (t : TypeId) : Option TypeId :=
  match P.underlying t with
  | some (.slice e) => some e
  | _ => none

def isU8 (P : Program) (e : TypeId) : Bool := match P.underlying e with | some (.int .u8) => true | _ => false
def isSrc (P : Program) (t : TypeId) : Bool := match P.underlying t with | some .string => true | some (.slice _) => true | _ => false

def partStruct (P : Program) (fs : Array Field) (p : Nat × Operand) : Option (Nat × Nat × Opd) :=
  (fs[p.1]?).bind fun f => (szOf P f.type).bind fun sz => (compOpd p.2).map fun x => (f.offset, sz, x)

def compOp (P : Program) (o : Op) (ty : TypeId) : Option AOp :=
  match o with
  | .move x => (compOpd x).map .mov
  | .assign x => (compOpd x).map .mov
  | .pick c a b => (compOpd c).bind fun c => (compOpd a).bind fun a => (compOpd b).map fun b => .pick c a b
  | .alloc e => (zeroOf P e).map .alloc
  | .box e x => (szOf P e).bind fun sz => (compOpd x).map fun x => .box sz x
  | .build t parts =>
    (zeroOf P t).bind fun z =>
    match P.underlying t with
    | some (.struct fs) => if fs.toList.all (fun f => (szOf P f.type).isSome) then (parts.toList.mapM (partStruct P fs)).map fun ps => .build z ps else none
    | some (.array _ e) => (szOf P e).bind fun sz => (parts.toList.mapM fun p => (compOpd p.2).map fun x => (p.1 * sz, sz, x)).map fun ps => .build z ps
    | _ => none
  | .buildSlice t len parts =>
    (slOf P t).bind fun e => (zeroOf P e).bind fun z =>
      if z.length ≠ 0 ∧ len * z.length ≤ 16777216 then (parts.toList.mapM fun p => (compOpd p.2).map fun x => (p.1, x)).map fun ps => .buildSl z.length len z ps else none
  | .load t a => (aggOf P t).bind fun ag => (szOf P t).bind fun sz => (compOpd a).map fun a => .load ag sz a
  | .store t a x => (szOf P t).bind fun sz => (compOpd a).bind fun a => (compOpd x).map fun x => .store sz a x
  | .nilCheck x => (compOpd x).map .nilck
  | .binOp op t x y _ =>
    (compOpd x).bind fun x => (compOpd y).bind fun y =>
      match op, P.underlying t with
      | .eql, some .bool => some (.eqB false x y)
      | .neq, some .bool => some (.eqB true x y)
      | .eql, some (.struct fs) => if P.stoodInHeld t = false ∧ P.eqGuardType P.depth t = false then (flatK P 0 fs.toList).map fun ks => .eqS false ks x y else none
      | .neq, some (.struct fs) => if P.stoodInHeld t = false ∧ P.eqGuardType P.depth t = false then (flatK P 0 fs.toList).map fun ks => .eqS true ks x y else none
      | .eql, some (.slice _) => some (.isNil false x y)
      | .neq, some (.slice _) => some (.isNil true x y)
      | op, some (.int _) => some (.bin op x y)
      | op, some .string => some (.bin op x y)
      | _, _ => none
  | .unOp op _ x => (compOpd x).map fun x => .un op x
  | .convert src dst x =>
    (compOpd x).bind fun x =>
      match P.underlying src, P.underlying dst with
      | some (.int _), some (.int k) => some (.conv k x)
      | some .string, some .string => some (.same x)
      | some .string, some (.slice e) => if isU8 P e = true then some (.s2b x) else none
      | some (.slice e), some .string => if isU8 P e = true then some (.b2s x) else none
      | _, _ => none
  | .makeFunc f first cap => (first.toList.mapM compOpd).bind fun a => (cap.toList.mapM compOpd).map fun b => .mkfn f a b
  | .makeSlice t l c => (slOf P t).bind fun e => (zeroOf P e).bind fun z => (byOf P e).bind fun by_ => if z.length ≠ 0 then (compOpd l).bind fun l => (compOpd c).map fun c => .mksl z.length by_ z l c else none
  | .slice t x lo hi none =>
    (compOpd x).bind fun x => (compOpt lo).bind fun lo => (compOpt hi).bind fun hi =>
      match P.underlying t with
      | some .string => some (.slice 0 x lo hi)
      | some (.slice e) => (szOf P e).bind fun sz => if sz ≠ 0 then some (.slice sz x lo hi) else none
      | _ => none
  | .fieldAddr s x n =>
    (compOpd x).bind fun x =>
      match P.underlying s with
      | some (.struct fs) => (fs[n]?).bind fun f => (szOf P f.type).bind fun sz => if sz ≠ 0 then some (.fldA f.offset x) else none
      | _ => none
  | .field s x n =>
    (compOpd x).bind fun x =>
      match P.underlying s with
      | some (.struct fs) => (fs[n]?).bind fun f => (szOf P f.type).bind fun sz => (aggOf P f.type).map fun ag => .fld f.offset sz ag x
      | _ => none
  | .indexAddr t x i =>
    (compOpd x).bind fun x => (compOpd i).bind fun i =>
      match P.underlying t with
      | some (.slice e) => (szOf P e).map fun sz => .idxA sz none x i
      | some (.array n e) => (szOf P e).map fun sz => .idxA sz (some n) x i
      | _ => none
  | .index t x i =>
    (compOpd x).bind fun x => (compOpd i).bind fun i =>
      match P.underlying t with
      | some .string => some (.idxS x i)
      | some (.array n e) => (szOf P e).bind fun sz => (aggOf P e).map fun ag => .idx sz n ag x i
      | _ => none
  | .extract x i => (compOpd x).map fun x => .ext x i
  | .call { callee := .builtin .len, args, argTypes } =>
    match args.toList, argTypes.toList with
    | [x], [t] => (compOpd x).bind fun x => match P.underlying t with
      | some .string => some (.len true x)
      | some (.slice _) => some (.len false x)
      | _ => none
    | _, _ => none
  | .call { callee := .builtin .append, args, argTypes } =>
    match args.toList, argTypes.toList with
    | [s, x], [t, t'] => (compOpd s).bind fun s => (compOpd x).bind fun x => (slOf P t).bind fun e => (zeroOf P e).bind fun z => (byOf P e).bind fun by_ =>
      if z.length ≠ 0 ∧ by_ ≠ 0 ∧ isSrc P t' = true then some (.append z.length by_ s x) else none
    | _, _ => none
  | .call { callee := .builtin .copy, args, argTypes } =>
    match args.toList, argTypes.toList with
    | [d, s], [t, _] => (compOpd d).bind fun d => (compOpd s).bind fun s => (slOf P t).bind fun e => (szOf P e).map fun sz => .copy sz d s
    | _, _ => none
  | .call { callee := .builtin .clear, args, argTypes } =>
    match args.toList, argTypes.toList with
    | [x], [t] => (compOpd x).bind fun x => (slOf P t).bind fun e => (zeroOf P e).bind fun z => if z.length ≠ 0 then some (.clr z.length z x) else none
    | _, _ => none
  | .call { callee := .builtin .min, args, argTypes := _ } =>
    match args.toList with
    | [x, y] => (compOpd x).bind fun x => (compOpd y).map fun y => .mn x y
    | _ => none
  | .call { callee := .builtin .max, args, argTypes := _ } =>
    match args.toList with
    | [x, y] => (compOpd x).bind fun x => (compOpd y).map fun y => .mx x y
    | _ => none
  | .call { callee := .value (.func f), args, argTypes := _ } =>
    match args.toList, isIdx P f with
    | [x, y], true => (compOpd x).bind fun x => (compOpd y).map fun y => .idxB x y
    | _, _ => none
  | .range t x => (compOpd x).bind fun x => match P.underlying t with
    | some .string => some (.rng x)
    | _ => none
  | .next x true => (compOpd x).map .nxt
  | .makeMap _ none => some .mkmap
  | .lookup t m k ok => (compOpd m).bind fun m => (compOpd k).bind fun k => match P.underlying t with
    | some (.map kt et) => match P.underlying kt with
      | some .string => (zeroD P et).map fun z => .lkp ok z m k
      | _ => none
    | _ => none
  | .mapUpdate t m k v => (compOpd m).bind fun m => (compOpd k).bind fun k => (compOpd v).bind fun v => match P.underlying t with
    | some (.map kt _) => match P.underlying kt with
      | some .string => some (.upd m k v)
      | _ => none
    | _ => none
  | _ => none

/-- An operation that is not covered must not be reached. -/
def compOpB (P : Program) (o : Op) (ty : TypeId) : AOp := (compOp P o ty).getD .bad

/-- Does the operation make a row? -/
def AOp.makes : AOp → Bool
  | .rng _ | .mkmap | .s2b _ | .alloc _ | .box _ _ | .buildSl _ _ _ _ | .mksl _ _ _ _ _ | .append _ _ _ _ => true
  | _ => false

section
variable {P : Program} {c : Cx}

theorem szOf_spec {t : TypeId} {sz : Nat} (h : szOf P t = some sz) : SzOf P t sz := by
  unfold szOf at h
  obtain ⟨i, hi, rfl⟩ := Option.map_eq_some_iff.1 h
  exact ⟨i, hi, rfl⟩

theorem aggOf_spec {t : TypeId} {b : Bool} (h : aggOf P t = some b) : AggT P t b := by
  unfold aggOf at h
  obtain ⟨d, hd, rfl⟩ := Option.map_eq_some_iff.1 h
  refine ⟨d, hd, ?_⟩
  cases d <;> rfl

theorem absD_rep {v : Value} {x : D} (h : absD v = some x) (I : Nat → Prop) (w : World) : RepD I w v x := by
  unfold absD at h
  split at h <;> first | (injection h with h; subst h; first | exact .int _ _ | exact .bool _ | exact .nils | exact .nilp | exact .str _) | cases h

theorem mapM_get {α β : Type} {f : α → Option β} : ∀ {l : List α} {l' : List β}, l.mapM f = some l' → l'.length = l.length ∧ ∀ (j : Nat) (x : α) (y : β), l[j]? = some x → l'[j]? = some y → f x = some y
  | [], l', h => by
    simp at h; subst h
    exact ⟨rfl, fun j x y h1 => by simp at h1⟩
  | a :: l, l', h => by
    rw [List.mapM_cons] at h
    cases ha : f a with
    | none => simp [ha] at h
    | some b =>
      cases hl : l.mapM f with
      | none => simp [ha, hl] at h
      | some bs =>
        simp [ha, hl] at h
        subst h
        obtain ⟨h1, h2⟩ := mapM_get hl
        refine ⟨by simp [h1], fun j x y h3 h4 => ?_⟩
        cases j with
        | zero => simp at h3 h4; subst h3 h4; exact ha
        | succ j => exact h2 j x y (by simpa using h3) (by simpa using h4)

theorem absV_rep {v : Value} {x : V} (h : absV v = some x) : Rep c v x := by
  unfold absV at h
  split at h
  · rename_i cs
    obtain ⟨l, hl, rfl⟩ := Option.map_eq_some_iff.1 h
    obtain ⟨h1, h2⟩ := mapM_get hl
    refine .agg _ _ (by simp; simpa using h1.symm) (fun j v x h3 h4 => ?_)
    simp only [List.getElem?_map] at h3
    obtain ⟨d, hd, rfl⟩ := Option.map_eq_some_iff.1 h3
    exact .d _ _ (absD_rep (h2 j x d (by simpa using h4) hd) _ _)
  · obtain ⟨d, hd, rfl⟩ := Option.map_eq_some_iff.1 h
    exact .d _ _ (absD_rep hd _ _)

theorem zeroOf_spec {t : TypeId} {z : List D} (h : zeroOf P t = some z) : ZeroOf P t z := by
  unfold zeroOf at h
  obtain ⟨i, hi, h⟩ := Option.bind_eq_some_iff.1 h
  obtain ⟨v, hv, h⟩ := Option.bind_eq_some_iff.1 h
  obtain ⟨l, hl, h⟩ := Option.bind_eq_some_iff.1 h
  split at h
  · rename_i hs
    injection h with h; subst h
    obtain ⟨h1, h2⟩ := mapM_get hl
    exact ⟨i, v, hi, hv, hs, by simpa using h1.symm, fun j d x h3 h4 => absD_rep (h2 j x d (by simpa using h4) h3) _ _⟩
  · cases h

theorem slOf_spec {t e : TypeId} (h : slOf P t = some e) : P.underlying t = some (.slice e) := by
  unfold slOf at h
  split at h
  · injection h with h; subst h; assumption
  · cases h

end
end Go.Vx

namespace Go.Vx
section
variable {P : Program} {c : Cx} {K : V → List (Nat × RowS) → Prop}

/-- What an operation comes to: a value, or nothing. -/
def ResN (c : Cx) (r : Result Next) (K : V → List (Nat × RowS) → Prop) : Prop :=
  ∃ v ups n c', K v ups ∧ r = .ok n c'.w ∧ Ok c' ∧ Ext c c' ∧ c'.rows = setRows c.rows ups ∧ ((∃ u, n = .value u ∧ Rep c' u v) ∨ (n = .skip ∧ v = .any))

theorem Res.toN {s : Sem Value} (h : Res c (s.run P c.w) K) : ResN c ((do pure (.value (← s)) : Sem Next).run P c.w) K := by
  obtain ⟨v, ups, u, c', h1, h2, h3, h4, h5, h6⟩ := h
  exact ⟨v, ups, .value u, c', h1, by simp [h2], h3, h4, h5, .inl ⟨u, rfl, h6⟩⟩

theorem bnd_comp {ρ : Operand → Value} {ev : Opd → V} (hev : ∀ x o, compOpd x = some o → Rep c (ρ x) (ev o)) {o : Option Operand} {o' : Option Opd} (h : compOpt o = some o') : BndRep c ev o' (o.map ρ) := by
  unfold compOpt at h
  cases o with
  | none => injection h with h; subst h; trivial
  | some x =>
    obtain ⟨y, hy, rfl⟩ := Option.map_eq_some_iff.1 h
    exact hev x y hy

theorem list_rep {ρ : Operand → Value} {ev : Opd → V} (hev : ∀ x o, compOpd x = some o → Rep c (ρ x) (ev o)) {l : Array Operand} {l' : List Opd} (h : l.toList.mapM compOpd = some l') :
    (l.map ρ).size = (l'.map ev).length ∧ ∀ (j : Nat) (v : V) (x : Value), (l'.map ev)[j]? = some v → (l.map ρ)[j]? = some x → Rep c x v := by
  obtain ⟨h1, h2⟩ := mapM_get h
  refine ⟨by simpa using h1.symm, fun j v x h3 h4 => ?_⟩
  simp only [List.getElem?_map] at h3
  obtain ⟨o, ho, rfl⟩ := Option.map_eq_some_iff.1 h3
  simp only [Array.getElem?_map] at h4
  obtain ⟨y, hy, rfl⟩ := Option.map_eq_some_iff.1 h4
  exact hev y o (h2 j y o (by simpa using hy) ho)

theorem u8_spec {e : TypeId} (h : isU8 P e = true) : P.underlying e = some (.int .u8) := by
  unfold isU8 at h
  split at h
  · assumption
  · cases h

theorem src_spec {t : TypeId} (h : isSrc P t = true) : ∃ d, P.underlying t = some d ∧ (d = .string ∨ ∃ e', d = .slice e') := by
  unfold isSrc at h
  split at h
  · rename_i h1; exact ⟨_, h1, .inl rfl⟩
  · rename_i e h1; exact ⟨_, h1, .inr ⟨e, rfl⟩⟩
  · cases h

theorem byOf_spec {e : TypeId} {z : List D} {b : Nat} (hz : ZeroOf P e z) (h : byOf P e = some b) : ∃ i, P.info? e = some i ∧ i.size = z.length ∧ i.bytes = b := by
  unfold byOf at h
  obtain ⟨i, hi, rfl⟩ := Option.map_eq_some_iff.1 h
  obtain ⟨i', v, hi', _, hs, _⟩ := hz
  rw [hi] at hi'; injection hi' with hi'; subst hi'
  exact ⟨i, hi, hs, rfl⟩

theorem nilck_ptr {ρ : Operand → Value} {o : Oper} {x : Operand} {a : Addr} (ho : o.op = .nilCheck x) (h : ρ x = .pointer (some a)) (w : World) : (execOp ρ o).run P w = .ok (.value (ρ x)) w := by
  simp [execOp, ho, h]

theorem nilck_fn {ρ : Operand → Value} {o : Oper} {x : Operand} {f : FuncId} {a b : Array Value} (ho : o.op = .nilCheck x) (h : ρ x = .func (.func f) a b) (w : World) : (execOp ρ o).run P w = .ok (.value (ρ x)) w := by
  simp [execOp, ho, h]

theorem comp_sound {o : Oper} {ao : AOp} (h : compOp P o.op o.type = some ao) (ok : Ok c) {ρ : Operand → Value} (hfun : ∀ f, ρ (.func f) = .func (.func f) #[] #[]) {ev : Opd → V} (hev : ∀ x o, compOpd x = some o → Rep c (ρ x) (ev o)) {hf : Nat}
    (hu : ao.makes = true → c.rows[hf]? = some .un) (hw : opW ao ev c.rows hf K) : ResN c ((execOp ρ o).run P c.w) K := by
  obtain ⟨dst, op, type, pos, after, guard⟩ := o
  simp only at h
  unfold execOp
  simp only
  unfold compOp at h
  split at h
  · -- move
    obtain ⟨x', hx, rfl⟩ := Option.map_eq_some_iff.1 h
    exact ⟨_, _, .value _, c, hw, rfl, ok, .refl c, rfl, .inl ⟨_, rfl, hev _ _ hx⟩⟩
  · obtain ⟨x', hx, rfl⟩ := Option.map_eq_some_iff.1 h
    exact ⟨_, _, .value _, c, hw, rfl, ok, .refl c, rfl, .inl ⟨_, rfl, hev _ _ hx⟩⟩
  · -- pick
    rename_i cO aO bO
    obtain ⟨c1, hc1, h⟩ := Option.bind_eq_some_iff.1 h
    obtain ⟨a1, ha1, h⟩ := Option.bind_eq_some_iff.1 h
    obtain ⟨b1, hb1, rfl⟩ := Option.map_eq_some_iff.1 h
    have h1 := hev _ _ hc1; have h2 := hev _ _ ha1; have h3 := hev _ _ hb1
    simp only [opW] at hw
    split at hw
    · rename_i t e1
      rw [e1] at h1
      have h4 := rep_bool h1
      refine ⟨_, _, .value (if t then ρ aO else ρ bO), c, hw, ?_, ok, .refl c, rfl, .inl ⟨_, rfl, ?_⟩⟩
      · show (do pure (Next.value (if ← asBool (ρ cO) then ρ aO else ρ bO)) : Sem Next).run P c.w = _
        rw [h4]; simp [asBool]
      · cases t
        · exact h3
        · exact h2
    · exact hw.elim
  · -- alloc
    obtain ⟨z, hz, rfl⟩ := Option.map_eq_some_iff.1 h
    exact (res_alloc ok (hu rfl) (zeroOf_spec hz) hw).toN
  · -- box
    obtain ⟨sz, hs, h⟩ := Option.bind_eq_some_iff.1 h
    obtain ⟨x', hx, rfl⟩ := Option.map_eq_some_iff.1 h
    exact (res_box ok (hu rfl) (hev _ _ hx) hw).toN
  · -- build
    obtain ⟨z, hz, h⟩ := Option.bind_eq_some_iff.1 h
    split at h
    · rename_i fs ht
      split at h
      · rename_i hall
        obtain ⟨ps, hps, rfl⟩ := Option.map_eq_some_iff.1 h
        obtain ⟨h1, h2⟩ := mapM_get hps
        refine (res_build (f := fun x => (szOf P x.type).getD 0) ok ht (zeroOf_spec hz) (fun x hx => ?_) (by simpa using h1) (fun k p p' h3 h4 => ?_) hw).toN
        · have := List.all_eq_true.1 hall x hx
          cases hs : szOf P x.type with
          | none => simp [hs] at this
          | some sz => exact szOf_spec hs
        · simp only [Array.getElem?_map] at h4
          obtain ⟨q, hq, rfl⟩ := Option.map_eq_some_iff.1 h4
          have h5 := h2 k q p (by simpa using hq) h3
          unfold partStruct at h5
          obtain ⟨f, hf1, h5⟩ := Option.bind_eq_some_iff.1 h5
          obtain ⟨sz, hs, h5⟩ := Option.bind_eq_some_iff.1 h5
          obtain ⟨x, hx, rfl⟩ := Option.map_eq_some_iff.1 h5
          exact ⟨⟨f, hf1, rfl, by simp [hs]⟩, hev _ _ hx⟩
      · cases h
    · rename_i n e ht
      obtain ⟨sz, hs, h⟩ := Option.bind_eq_some_iff.1 h
      obtain ⟨ps, hps, rfl⟩ := Option.map_eq_some_iff.1 h
      obtain ⟨h1, h2⟩ := mapM_get hps
      refine (res_buildA ok ht (zeroOf_spec hz) (szOf_spec hs) (by simpa using h1) (fun k p p' h3 h4 => ?_) hw).toN
      simp only [Array.getElem?_map] at h4
      obtain ⟨q, hq, rfl⟩ := Option.map_eq_some_iff.1 h4
      have h5 := h2 k q p (by simpa using hq) h3
      obtain ⟨x, hx, rfl⟩ := Option.map_eq_some_iff.1 h5
      exact ⟨⟨rfl, rfl⟩, hev _ _ hx⟩
    · cases h
  · -- buildSlice
    obtain ⟨e, he, h⟩ := Option.bind_eq_some_iff.1 h
    obtain ⟨z, hz, h⟩ := Option.bind_eq_some_iff.1 h
    split at h
    · rename_i hcnd
      obtain ⟨ps, hps, rfl⟩ := Option.map_eq_some_iff.1 h
      obtain ⟨h1, h2⟩ := mapM_get hps
      refine (res_buildSl ok (hu rfl) (slOf_spec he) (zeroOf_spec hz) rfl hcnd.1 hcnd.2 (by simpa using h1) (fun k p p' h3 h4 => ?_) hw).toN
      simp only [Array.getElem?_map] at h4
      obtain ⟨q, hq, rfl⟩ := Option.map_eq_some_iff.1 h4
      have h5 := h2 k q p (by simpa using hq) h3
      obtain ⟨x, hx, rfl⟩ := Option.map_eq_some_iff.1 h5
      exact ⟨rfl, hev _ _ hx⟩
    · cases h
  · -- load
    obtain ⟨ag, ha, h⟩ := Option.bind_eq_some_iff.1 h
    obtain ⟨sz, hs, h⟩ := Option.bind_eq_some_iff.1 h
    obtain ⟨x', hx, rfl⟩ := Option.map_eq_some_iff.1 h
    exact (res_load ok (szOf_spec hs) (aggOf_spec ha) (hev _ _ hx) hw).toN
  · -- store
    obtain ⟨sz, hs, h⟩ := Option.bind_eq_some_iff.1 h
    obtain ⟨a', ha, h⟩ := Option.bind_eq_some_iff.1 h
    obtain ⟨x', hx, rfl⟩ := Option.map_eq_some_iff.1 h
    obtain ⟨v, ups, c', h1, h2, h3, h4, h5, h6⟩ := res_store (P := P) ok (szOf_spec hs) (hev _ _ ha) (hev _ _ hx) hw
    exact ⟨v, ups, .skip, c', h1, by simp [h2], h3, h4, h5, .inr ⟨rfl, h6⟩⟩
  · -- nilCheck
    rename_i xO
    obtain ⟨x', hx, rfl⟩ := Option.map_eq_some_iff.1 h
    have h1 := hev _ _ hx
    simp only [opW] at hw
    split at hw
    · rename_i cs e1
      rw [e1] at h1
      have h2 : ∃ a, ρ xO = .pointer (some a) := by
        generalize ρ xO = u at *
        cases h1 with | d _ _ h1 =>
        cases h1 with | ptr _ b off uu hI hcell hrep => exact ⟨_, rfl⟩
      obtain ⟨a, h2⟩ := h2
      exact ⟨_, _, .value _, c, hw, nilck_ptr (o := ⟨dst, .nilCheck xO, type, pos, after, guard⟩) rfl h2 _, ok, .refl c, rfl, .inl ⟨_, rfl, h1⟩⟩
    · rename_i sz g n i off e1
      rw [e1] at h1
      obtain ⟨b, hb, hu'⟩ := rep_optr h1 hw.1
      exact ⟨_, _, .value _, c, hw.2, nilck_ptr (o := ⟨dst, .nilCheck xO, type, pos, after, guard⟩) rfl hu' _, ok, .refl c, rfl, .inl ⟨_, rfl, h1⟩⟩
    · rename_i f a b e1
      rw [e1] at h1
      have h2 : ∃ fs cps, ρ xO = .func (.func f) fs cps := by
        generalize ρ xO = u at *
        cases h1 with | fn _ fs cps _ _ h2 h3 h4 h5 => exact ⟨_, _, rfl⟩
      obtain ⟨fs, cps, h2⟩ := h2
      exact ⟨_, _, .value _, c, hw, nilck_fn (o := ⟨dst, .nilCheck xO, type, pos, after, guard⟩) rfl h2 _, ok, .refl c, rfl, .inl ⟨_, rfl, h1⟩⟩
    · exact hw.elim
  · -- binOp
    obtain ⟨x', hx, h⟩ := Option.bind_eq_some_iff.1 h
    obtain ⟨y', hy, h⟩ := Option.bind_eq_some_iff.1 h
    split at h
    · rename_i ht h8 h9
      injection h with h; subst h
      exact (res_eqB (neg := false) ok ht rfl (hev _ _ hx) (hev _ _ hy) hw).toN
    · rename_i ht h8 h9
      injection h with h; subst h
      exact (res_eqB (neg := true) ok ht rfl (hev _ _ hx) (hev _ _ hy) hw).toN
    · rename_i fs ht h8 h9
      split at h
      · rename_i hc
        obtain ⟨ks, hks, rfl⟩ := Option.map_eq_some_iff.1 h
        exact (res_eqS (neg := false) ok ht hks hc.1 hc.2 rfl (hev _ _ hx) (hev _ _ hy) hw).toN
      · cases h
    · rename_i fs ht h8 h9
      split at h
      · rename_i hc
        obtain ⟨ks, hks, rfl⟩ := Option.map_eq_some_iff.1 h
        exact (res_eqS (neg := true) ok ht hks hc.1 hc.2 rfl (hev _ _ hx) (hev _ _ hy) hw).toN
      · cases h
    · rename_i e ht h8 h9
      injection h with h; subst h
      exact (res_isNil (neg := false) ok ht rfl (hev _ _ hx) (hev _ _ hy) hw).toN
    · rename_i e ht h8 h9
      injection h with h; subst h
      exact (res_isNil (neg := true) ok ht rfl (hev _ _ hx) (hev _ _ hy) hw).toN
    · injection h with h; subst h
      exact (res_bin ok (hev _ _ hx) (hev _ _ hy) hw).toN
    · injection h with h; subst h
      exact (res_bin ok (hev _ _ hx) (hev _ _ hy) hw).toN
    · cases h
  · -- unOp
    obtain ⟨x', hx, rfl⟩ := Option.map_eq_some_iff.1 h
    exact (res_un ok (hev _ _ hx) hw).toN
  · -- convert
    obtain ⟨x', hx, h⟩ := Option.bind_eq_some_iff.1 h
    split at h
    · rename_i h1 h2
      injection h with h; subst h
      exact (res_conv ok ⟨_, h1⟩ h2 (hev _ _ hx) hw).toN
    · rename_i h1 h2
      injection h with h; subst h
      exact (res_same ok ⟨_, h1⟩ h2 (hev _ _ hx) hw).toN
    · rename_i e h1 h2
      split at h
      · rename_i h3
        injection h with h; subst h
        exact (res_s2b ok (hu rfl) h1 h2 (u8_spec h3) (hev _ _ hx) hw).toN
      · cases h
    · rename_i e h1 h2
      split at h
      · rename_i h3
        injection h with h; subst h
        exact (res_b2s ok h1 (u8_spec h3) h2 (hev _ _ hx) hw).toN
      · cases h
    · cases h
  · -- makeFunc
    obtain ⟨a, ha, h⟩ := Option.bind_eq_some_iff.1 h
    obtain ⟨b, hb, rfl⟩ := Option.map_eq_some_iff.1 h
    obtain ⟨h1, h2⟩ := list_rep hev ha
    obtain ⟨h3, h4⟩ := list_rep hev hb
    exact ⟨_, _, .value _, c, hw, rfl, ok, .refl c, rfl, .inl ⟨_, rfl, .fn _ _ _ _ _ h1 h3 h2 h4⟩⟩
  · -- makeSlice
    obtain ⟨e, he, h⟩ := Option.bind_eq_some_iff.1 h
    obtain ⟨z, hz, h⟩ := Option.bind_eq_some_iff.1 h
    obtain ⟨b, hb, h⟩ := Option.bind_eq_some_iff.1 h
    split at h
    · rename_i hcnd
      obtain ⟨l', hl, h⟩ := Option.bind_eq_some_iff.1 h
      obtain ⟨k', hk, rfl⟩ := Option.map_eq_some_iff.1 h
      obtain ⟨i, h1, h2, h3⟩ := byOf_spec (zeroOf_spec hz) hb
      exact (res_mksl ok (hu rfl) (slOf_spec he) (zeroOf_spec hz) ⟨i, h1, h3⟩ rfl hcnd (hev _ _ hl) (hev _ _ hk) hw).toN
    · cases h
  · -- slice
    obtain ⟨x', hx, h⟩ := Option.bind_eq_some_iff.1 h
    obtain ⟨lo', hlo, h⟩ := Option.bind_eq_some_iff.1 h
    obtain ⟨hi', hhi, h⟩ := Option.bind_eq_some_iff.1 h
    split at h
    · rename_i ht
      injection h with h; subst h
      exact (res_slice (e := 0) (sz := 0) ok (by simpa using ht) (fun h => absurd rfl h) (hev _ _ hx) (bnd_comp hev hlo) (bnd_comp hev hhi) hw).toN
    · rename_i e ht
      obtain ⟨sz, hs, h⟩ := Option.bind_eq_some_iff.1 h
      split at h
      · rename_i hnz
        injection h with h; subst h
        exact (res_slice (e := e) ok (by rw [if_neg hnz]; exact ht) (fun _ => szOf_spec hs) (hev _ _ hx) (bnd_comp hev hlo) (bnd_comp hev hhi) hw).toN
      · cases h
    · cases h
  · -- fieldAddr
    obtain ⟨x', hx, h⟩ := Option.bind_eq_some_iff.1 h
    split at h
    · rename_i fs ht
      obtain ⟨f, hf1, h⟩ := Option.bind_eq_some_iff.1 h
      obtain ⟨sz, hs, h⟩ := Option.bind_eq_some_iff.1 h
      split at h
      · rename_i hnz
        injection h with h; subst h
        exact (res_fldA ok ht hf1 rfl ⟨sz, szOf_spec hs, hnz⟩ (hev _ _ hx) hw).toN
      · cases h
    · cases h
  · -- field
    obtain ⟨x', hx, h⟩ := Option.bind_eq_some_iff.1 h
    split at h
    · rename_i fs ht
      obtain ⟨f, hf1, h⟩ := Option.bind_eq_some_iff.1 h
      obtain ⟨sz, hs, h⟩ := Option.bind_eq_some_iff.1 h
      obtain ⟨ag, ha, rfl⟩ := Option.map_eq_some_iff.1 h
      exact (res_fld ok ht hf1 rfl (szOf_spec hs) (aggOf_spec ha) (hev _ _ hx) hw).toN
    · cases h
  · -- indexAddr
    obtain ⟨x', hx, h⟩ := Option.bind_eq_some_iff.1 h
    obtain ⟨i', hi, h⟩ := Option.bind_eq_some_iff.1 h
    split at h
    · rename_i e ht
      obtain ⟨sz, hs, rfl⟩ := Option.map_eq_some_iff.1 h
      exact (res_idxA (e := e) ok (arr := none) ht (szOf_spec hs) (hev _ _ hx) (hev _ _ hi) hw).toN
    · rename_i n e ht
      obtain ⟨sz, hs, rfl⟩ := Option.map_eq_some_iff.1 h
      exact (res_idxA (e := e) ok (arr := some n) ht (szOf_spec hs) (hev _ _ hx) (hev _ _ hi) hw).toN
    · cases h
  · -- index
    obtain ⟨x', hx, h⟩ := Option.bind_eq_some_iff.1 h
    obtain ⟨i', hi, h⟩ := Option.bind_eq_some_iff.1 h
    split at h
    · rename_i ht
      injection h with h; subst h
      exact (res_idxS ok ht (hev _ _ hx) (hev _ _ hi) hw).toN
    · rename_i n e ht
      obtain ⟨sz, hs, h⟩ := Option.bind_eq_some_iff.1 h
      obtain ⟨ag, ha, rfl⟩ := Option.map_eq_some_iff.1 h
      exact (res_idx ok ht (szOf_spec hs) (aggOf_spec ha) (hev _ _ hx) (hev _ _ hi) hw).toN
    · cases h
  · -- extract
    obtain ⟨x', hx, rfl⟩ := Option.map_eq_some_iff.1 h
    exact (res_ext ok (hev _ _ hx) hw).toN
  · -- len
    rename_i args argTypes
    split at h
    · rename_i x t hargs htys
      obtain ⟨x', hx, h⟩ := Option.bind_eq_some_iff.1 h
      have ha : args = #[x] := by rw [← hargs]
      have ht : argTypes = #[t] := by rw [← htys]
      subst ha ht
      split at h
      · rename_i ht
        injection h with h; subst h
        have := (res_len (ty := type) (str := true) ok (by simpa using ht) (hev _ _ hx) hw).toN
        simpa [resolve, invoke, builtin] using this
      · rename_i e ht
        injection h with h; subst h
        have := (res_len (ty := type) (str := false) ok (by simpa using ⟨e, ht⟩) (hev _ _ hx) hw).toN
        simpa [resolve, invoke, builtin] using this
      · cases h
    · cases h
  · -- append
    rename_i args argTypes
    split at h
    · rename_i s x t t' hargs htys
      obtain ⟨s', hs, h⟩ := Option.bind_eq_some_iff.1 h
      obtain ⟨x', hx, h⟩ := Option.bind_eq_some_iff.1 h
      obtain ⟨e, he, h⟩ := Option.bind_eq_some_iff.1 h
      obtain ⟨z, hz, h⟩ := Option.bind_eq_some_iff.1 h
      obtain ⟨b, hb, h⟩ := Option.bind_eq_some_iff.1 h
      have ha : args = #[s, x] := by rw [← hargs]
      have ht : argTypes = #[t, t'] := by rw [← htys]
      subst ha ht
      split at h
      · rename_i hcnd
        injection h with h; subst h
        obtain ⟨d, hd1, hd2⟩ := src_spec hcnd.2.2
        have := (res_append (ty := type) ok (hu rfl) (slOf_spec he) hd1 hd2 (byOf_spec (zeroOf_spec hz) hb) (zeroOf_spec hz) rfl hcnd.2.1 hcnd.1 (hev _ _ hs) (hev _ _ hx) hw).toN
        simpa [resolve, invoke, builtin] using this
      · cases h
    · cases h
  · -- copy
    rename_i args argTypes
    split at h
    · rename_i d s t t' hargs htys
      obtain ⟨d', hd, h⟩ := Option.bind_eq_some_iff.1 h
      obtain ⟨s', hs, h⟩ := Option.bind_eq_some_iff.1 h
      obtain ⟨e, he, h⟩ := Option.bind_eq_some_iff.1 h
      obtain ⟨sz, hsz, rfl⟩ := Option.map_eq_some_iff.1 h
      have ha : args = #[d, s] := by rw [← hargs]
      have ht : argTypes = #[t, t'] := by rw [← htys]
      subst ha ht
      have := (res_copy (ty := type) (t' := t') ok (slOf_spec he) (szOf_spec hsz) (hev _ _ hd) (hev _ _ hs) hw).toN
      simpa [resolve, invoke, builtin] using this
    · cases h
  · -- clear
    rename_i args argTypes
    split at h
    · rename_i x t hargs htys
      obtain ⟨x', hx, h⟩ := Option.bind_eq_some_iff.1 h
      obtain ⟨e, he, h⟩ := Option.bind_eq_some_iff.1 h
      obtain ⟨z, hz, h⟩ := Option.bind_eq_some_iff.1 h
      have ha : args = #[x] := by rw [← hargs]
      have ht : argTypes = #[t] := by rw [← htys]
      subst ha ht
      split at h
      · rename_i hz0
        injection h with h; subst h
        have := (res_clr (ty := type) ok (slOf_spec he) (zeroOf_spec hz) rfl hz0 (hev _ _ hx) hw).toN
        simpa [resolve, invoke, builtin] using this
      · cases h
    · cases h
  · -- min
    rename_i args argTypes
    split at h
    · rename_i x y hargs
      obtain ⟨x', hx, h⟩ := Option.bind_eq_some_iff.1 h
      obtain ⟨y', hy, rfl⟩ := Option.map_eq_some_iff.1 h
      have ha : args = #[x, y] := by rw [← hargs]
      subst ha
      have := (res_mn (P := P) (t := argTypes) (ty := type) ok (hev _ _ hx) (hev _ _ hy) hw).toN
      simpa [resolve, invoke, builtin] using this
    · cases h
  · -- max
    rename_i args argTypes
    split at h
    · rename_i x y hargs
      obtain ⟨x', hx, h⟩ := Option.bind_eq_some_iff.1 h
      obtain ⟨y', hy, rfl⟩ := Option.map_eq_some_iff.1 h
      have ha : args = #[x, y] := by rw [← hargs]
      subst ha
      have := (res_mx (P := P) (t := argTypes) (ty := type) ok (hev _ _ hx) (hev _ _ hy) hw).toN
      simpa [resolve, invoke, builtin] using this
    · cases h
  · -- the byte's place
    rename_i f args argTypes
    split at h
    · rename_i x y hargs hi
      obtain ⟨x', hx, h⟩ := Option.bind_eq_some_iff.1 h
      obtain ⟨y', hy, rfl⟩ := Option.map_eq_some_iff.1 h
      have ha : args = #[x, y] := by rw [← hargs]
      subst ha
      obtain ⟨v, ups, n, c', h1, h2, h3⟩ := res_idxB ok hi (hev _ _ hx) (hev _ _ hy) hw
      refine ⟨v, ups, n, c', h1, ?_, h3⟩
      simpa [resolve, hfun f, Deferred.ofValue, invoke] using h2
    · cases h
  · -- range
    obtain ⟨x', hx, h⟩ := Option.bind_eq_some_iff.1 h
    split at h
    · rename_i ht
      injection h with h; subst h
      exact (res_rng ok ht (hu rfl) (hev _ _ hx) hw).toN
    · cases h
  · -- next
    obtain ⟨x', hx, rfl⟩ := Option.map_eq_some_iff.1 h
    exact (res_nxt ok (hev _ _ hx) hw).toN
  · -- makeMap
    injection h with h; subst h
    exact (res_mkmap ok (hu rfl) hw).toN
  · -- lookup
    obtain ⟨m', hm, h⟩ := Option.bind_eq_some_iff.1 h
    obtain ⟨k', hk, h⟩ := Option.bind_eq_some_iff.1 h
    split at h
    · rename_i kt et ht
      split at h
      · rename_i hkt
        obtain ⟨z, hz, rfl⟩ := Option.map_eq_some_iff.1 h
        exact (res_lkp ok ht hkt hz (hev _ _ hm) (hev _ _ hk) hw).toN
      · cases h
    · cases h
  · -- mapUpdate
    obtain ⟨m', hm, h⟩ := Option.bind_eq_some_iff.1 h
    obtain ⟨k', hk, h⟩ := Option.bind_eq_some_iff.1 h
    obtain ⟨v', hv, h⟩ := Option.bind_eq_some_iff.1 h
    split at h
    · rename_i kt et ht
      split at h
      · rename_i hkt
        injection h with h; subst h
        obtain ⟨v, ups, c', h1, h2, h3, h4, h5, h6⟩ := res_upd ok ht hkt (hev _ _ hm) (hev _ _ hk) (hev _ _ hv) hw
        exact ⟨v, ups, .skip, c', h1, by simp [h2], h3, h4, h5, .inr ⟨rfl, h6⟩⟩
      · cases h
    · cases h
  · cases h

theorem compB_sound {o : Oper} (ok : Ok c) {ρ : Operand → Value} (hfun : ∀ f, ρ (.func f) = .func (.func f) #[] #[]) {ev : Opd → V} (hev : ∀ x o, compOpd x = some o → Rep c (ρ x) (ev o)) {hf : Nat}
    (hu : (compOpB P o.op o.type).makes = true → c.rows[hf]? = some .un) (hw : opW (compOpB P o.op o.type) ev c.rows hf K) : ResN c ((execOp ρ o).run P c.w) K := by
  cases h : compOp P o.op o.type with
  | none => simp only [compOpB, h, Option.getD_none, opW] at hw
  | some ao =>
    simp only [compOpB, h, Option.getD_some] at hw hu
    exact comp_sound h ok hfun hev hu hw

end
end Go.Vx
