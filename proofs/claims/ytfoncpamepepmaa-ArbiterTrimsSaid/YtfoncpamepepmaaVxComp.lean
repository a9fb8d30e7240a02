import Derived.Test.YtfoncpamepepmaaVxSound10
set_option linter.unusedSimpArgs false
set_option linter.unusedVariables false
namespace Go.Vx

def szOf (P : Program) (t : TypeId) : Option Nat := (P.info? t).map (·.size)
def byOf (P : Program) (t : TypeId) : Option Nat := (P.info? t).map (·.bytes)
def aggOf (P : Program) (t : TypeId) : Option Bool := (P.underlying t).map fun d => match d with | .struct _ | .array _ _ => true | _ => false

def absD : Value → Option D
  | .int k n => some (.int k n)
  | .bool b => some (.bool b)
  | .string s => some (.str s.data.toList)
  | .slice none 0 0 => some .nils
  | .pointer none => some .nilp
  | _ => none

def absV : Value → Option V
  | .agg cs => (cs.toList.mapM absD).map fun l => .agg (l.map .d)
  | v => (absD v).map .d

def compOpd : Operand → Option Opd
  | .tmp t => some (.t t)
  | .const v => some (.k ((absV v).getD .any))
  | .func f => some (.k (.fn (.func f) [] []))
  | .global _ => none

def compOpt : Option Operand → Option (Option Opd)
  | none => some none
  | some x => (compOpd x).map some

def zeroOf (P : Program) (t : TypeId) : Option (List D) :=
  (P.info? t).bind fun i => i.zero.bind fun z => (z.cells.toList.mapM absD).bind fun l => if i.size = l.length then some l else none

def slOf (P : Program) (t : TypeId) : Option TypeId :=
  match P.underlying t with
  | some (.slice e) => some e
  | _ => none

def isU8 (P : Program) (e : TypeId) : Bool := match P.underlying e with | some (.int .u8) => true | _ => false
def isSrc (P : Program) (t : TypeId) : Bool := match P.underlying t with | some .string => true | some (.slice _) => true | _ => false

def partStruct (P : Program) (fs : Array Field) (p : Nat × Operand) : Option (Nat × Nat × Opd) :=
  (fs[p.1]?).bind fun f => (szOf P f.type).bind fun sz => (compOpd p.2).map fun x => (f.offset, sz, x)

def compOp (P : Program) (o : Op) (ty : TypeId) : Option AOp :=
  match o with
  | .move x => (compOpd x).map .mov
  | .assign x => (compOpd x).map .mov
  | .pick c a b => (compOpd c).bind fun c => (compOpd a).bind fun a => (compOpd b).map fun b => .pick c a b
  | .alloc e => (zeroOf P e).map .alloc
  | .box e x => (szOf P e).bind fun sz => (compOpd x).map fun x => .box sz x
  | .build t parts =>
    (zeroOf P t).bind fun z =>
    match P.underlying t with
    | some (.struct fs) => if fs.toList.all (fun f => (szOf P f.type).isSome) then (parts.toList.mapM (partStruct P fs)).map fun ps => .build z ps else none
    | some (.array _ e) => (szOf P e).bind fun sz => (parts.toList.mapM fun p => (compOpd p.2).map fun x => (p.1 * sz, sz, x)).map fun ps => .build z ps
    | _ => none
  | .buildSlice t len parts =>
    (slOf P t).bind fun e => (zeroOf P e).bind fun z =>
      if z.length ≠ 0 ∧ len * z.length ≤ 16777216 then (parts.toList.mapM fun p => (compOpd p.2).map fun x => (p.1, x)).map fun ps => .buildSl z.length len z ps else none
  | .load t a => (aggOf P t).bind fun ag => (szOf P t).bind fun sz => (compOpd a).map fun a => .load ag sz a
  | .store t a x => (szOf P t).bind fun sz => (compOpd a).bind fun a => (compOpd x).map fun x => .store sz a x
  | .nilCheck x => (compOpd x).map .nilck
  | .binOp op t x y _ =>
    (compOpd x).bind fun x => (compOpd y).bind fun y =>
      match op, P.underlying t with
      | .eql, some .bool => some (.eqB false x y)
      | .neq, some .bool => some (.eqB true x y)
      | .eql, some (.struct fs) => if P.stoodInHeld t = false ∧ P.eqGuardType P.depth t = false then (flatK P 0 fs.toList).map fun ks => .eqS false ks x y else none
      | .neq, some (.struct fs) => if P.stoodInHeld t = false ∧ P.eqGuardType P.depth t = false then (flatK P 0 fs.toList).map fun ks => .eqS true ks x y else none
      | .eql, some (.slice _) => some (.isNil false x y)
      | .neq, some (.slice _) => some (.isNil true x y)
      | op, some (.int _) => some (.bin op x y)
      | op, some .string => some (.bin op x y)
      | _, _ => none
  | .unOp op _ x => (compOpd x).map fun x => .un op x
  | .convert src dst x =>
    (compOpd x).bind fun x =>
      match P.underlying src, P.underlying dst with
      | some (.int _), some (.int k) => some (.conv k x)
      | some .string, some .string => some (.same x)
      | some .string, some (.slice e) => if isU8 P e = true then some (.s2b x) else none
      | some (.slice e), some .string => if isU8 P e = true then some (.b2s x) else none
      | _, _ => none
  | .makeFunc f first cap => (first.toList.mapM compOpd).bind fun a => (cap.toList.mapM compOpd).map fun b => .mkfn f a b
  | .makeSlice t l c => (slOf P t).bind fun e => (zeroOf P e).bind fun z => (byOf P e).bind fun by_ => if z.length ≠ 0 then (compOpd l).bind fun l => (compOpd c).map fun c => .mksl z.length by_ z l c else none
  | .slice t x lo hi none =>
    (compOpd x).bind fun x => (compOpt lo).bind fun lo => (compOpt hi).bind fun hi =>
      match P.underlying t with
      | some .string => some (.slice 0 x lo hi)
      | some (.slice e) => (szOf P e).bind fun sz => if sz ≠ 0 then some (.slice sz x lo hi) else none
      | _ => none
  | .fieldAddr s x n =>
    (compOpd x).bind fun x =>
      match P.underlying s with
      | some (.struct fs) => (fs[n]?).bind fun f => (szOf P f.type).bind fun sz => if sz ≠ 0 then some (.fldA f.offset x) else none
      | _ => none
  | .field s x n =>
    (compOpd x).bind fun x =>
      match P.underlying s with
      | some (.struct fs) => (fs[n]?).bind fun f => (szOf P f.type).bind fun sz => (aggOf P f.type).map fun ag => .fld f.offset sz ag x
      | _ => none
  | .indexAddr t x i =>
    (compOpd x).bind fun x => (compOpd i).bind fun i =>
      match P.underlying t with
      | some (.slice e) => (szOf P e).map fun sz => .idxA sz none x i
      | some (.array n e) => (szOf P e).map fun sz => .idxA sz (some n) x i
      | _ => none
  | .index t x i =>
    (compOpd x).bind fun x => (compOpd i).bind fun i =>
      match P.underlying t with
      | some .string => some (.idxS x i)
      | some (.array n e) => (szOf P e).bind fun sz => (aggOf P e).map fun ag => .idx sz n ag x i
      | _ => none
  | .extract x i => (compOpd x).map fun x => .ext x i
  | .call { callee := .builtin .len, args, argTypes } =>
    match args.toList, argTypes.toList with
    | [x], [t] => (compOpd x).bind fun x => match P.underlying t with
      | some .string => some (.len true x)
      | some (.slice _) => some (.len false x)
      | _ => none
    | _, _ => none
  | .call { callee := .builtin .append, args, argTypes } =>
    match args.toList, argTypes.toList with
    | [s, x], [t, t'] => (compOpd s).bind fun s => (compOpd x).bind fun x => (slOf P t).bind fun e => (zeroOf P e).bind fun z => (byOf P e).bind fun by_ =>
      if z.length ≠ 0 ∧ by_ ≠ 0 ∧ isSrc P t' = true then some (.append z.length by_ s x) else none
    | _, _ => none
  | .call { callee := .builtin .copy, args, argTypes } =>
    match args.toList, argTypes.toList with
    | [d, s], [t, _] => (compOpd d).bind fun d => (compOpd s).bind fun s => (slOf P t).bind fun e => (szOf P e).map fun sz => .copy sz d s
    | _, _ => none
  | .call { callee := .builtin .min, args, argTypes := _ } =>
    match args.toList with
    | [x, y] => (compOpd x).bind fun x => (compOpd y).map fun y => .mn x y
    | _ => none
  | .call { callee := .builtin .max, args, argTypes := _ } =>
    match args.toList with
    | [x, y] => (compOpd x).bind fun x => (compOpd y).map fun y => .mx x y
    | _ => none
  | _ => none

/-- Does the operation make a row? -/
def AOp.makes : AOp → Bool
  | .s2b _ | .alloc _ | .box _ _ | .buildSl _ _ _ _ | .mksl _ _ _ _ _ | .append _ _ _ _ => true
  | _ => false

section
variable {P : Program} {c : Cx}

theorem szOf_spec {t : TypeId} {sz : Nat} (h : szOf P t = some sz) : SzOf P t sz := by
  unfold szOf at h
  obtain ⟨i, hi, rfl⟩ := Option.map_eq_some_iff.1 h
  exact ⟨i, hi, rfl⟩

theorem aggOf_spec {t : TypeId} {b : Bool} (h : aggOf P t = some b) : AggT P t b := by
  unfold aggOf at h
  obtain ⟨d, hd, rfl⟩ := Option.map_eq_some_iff.1 h
  refine ⟨d, hd, ?_⟩
  cases d <;> rfl

theorem absD_rep {v : Value} {x : D} (h : absD v = some x) (I : Nat → Prop) (w : World) : RepD I w v x := by
  unfold absD at h
  split at h <;> first | (injection h with h; subst h; first | exact .int _ _ | exact .bool _ | exact .nils | exact .nilp | exact .str _) | cases h

theorem mapM_get {α β : Type} {f : α → Option β} : ∀ {l : List α} {l' : List β}, l.mapM f = some l' → l'.length = l.length ∧ ∀ (j : Nat) (x : α) (y : β), l[j]? = some x → l'[j]? = some y → f x = some y
  | [], l', h => by
    simp at h; subst h
    exact ⟨rfl, fun j x y h1 => by simp at h1⟩
  | a :: l, l', h => by
    rw [List.mapM_cons] at h
    cases ha : f a with
    | none => simp [ha] at h
    | some b =>
      cases hl : l.mapM f with
      | none => simp [ha, hl] at h
      | some bs =>
        simp [ha, hl] at h
        subst h
        obtain ⟨h1, h2⟩ := mapM_get hl
        refine ⟨by simp [h1], fun j x y h3 h4 => ?_⟩
        cases j with
        | zero => simp at h3 h4; subst h3 h4; exact ha
        | succ j => exact h2 j x y (by simpa using h3) (by simpa using h4)

theorem absV_rep {v : Value} {x : V} (h : absV v = some x) : Rep c v x := by
  unfold absV at h
  split at h
  · rename_i cs
    obtain ⟨l, hl, rfl⟩ := Option.map_eq_some_iff.1 h
    obtain ⟨h1, h2⟩ := mapM_get hl
    refine .agg _ _ (by simp; simpa using h1.symm) (fun j v x h3 h4 => ?_)
    simp only [List.getElem?_map] at h3
    obtain ⟨d, hd, rfl⟩ := Option.map_eq_some_iff.1 h3
    exact .d _ _ (absD_rep (h2 j x d (by simpa using h4) hd) _ _)
  · obtain ⟨d, hd, rfl⟩ := Option.map_eq_some_iff.1 h
    exact .d _ _ (absD_rep hd _ _)

theorem zeroOf_spec {t : TypeId} {z : List D} (h : zeroOf P t = some z) : ZeroOf P t z := by
  unfold zeroOf at h
  obtain ⟨i, hi, h⟩ := Option.bind_eq_some_iff.1 h
  obtain ⟨v, hv, h⟩ := Option.bind_eq_some_iff.1 h
  obtain ⟨l, hl, h⟩ := Option.bind_eq_some_iff.1 h
  split at h
  · rename_i hs
    injection h with h; subst h
    obtain ⟨h1, h2⟩ := mapM_get hl
    exact ⟨i, v, hi, hv, hs, by simpa using h1.symm, fun j d x h3 h4 => absD_rep (h2 j x d (by simpa using h4) h3) _ _⟩
  · cases h

theorem slOf_spec {t e : TypeId} (h : slOf P t = some e) : P.underlying t = some (.slice e) := by
  unfold slOf at h
  split at h
  · injection h with h; subst h; assumption
  · cases h

end
end Go.Vx
