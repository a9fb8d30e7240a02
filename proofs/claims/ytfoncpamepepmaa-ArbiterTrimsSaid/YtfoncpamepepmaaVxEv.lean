import Derived.Test.YtfoncpamepepmaaVxAll
set_option linter.unusedSimpArgs false
set_option linter.unusedVariables false
namespace Go.Vx

/-! A reckoner for closed calls. -/

def intX : V → Option Int
  | .d (.int _ n) => some n
  | _ => none
def binIX (op : BinOp) (k : IntKind) (a b : Int) : Option D :=
  match op with
  | .add => some (.int k (k.wrap (a + b)))
  | .sub => some (.int k (k.wrap (a - b)))
  | .mul => some (.int k (k.wrap (a * b)))
  | .quo => if b ≠ 0 then some (.int k (k.wrap (a.tdiv b))) else none
  | .rem => if b ≠ 0 then some (.int k (a.tmod b)) else none
  | .and => some (.int k (k.wrap ((BitVec.ofInt k.bits a &&& BitVec.ofInt k.bits b).toNat)))
  | .or => some (.int k (k.wrap ((BitVec.ofInt k.bits a ||| BitVec.ofInt k.bits b).toNat)))
  | .xor => some (.int k (k.wrap ((BitVec.ofInt k.bits a ^^^ BitVec.ofInt k.bits b).toNat)))
  | .andNot => some (.int k (k.wrap ((BitVec.ofInt k.bits a &&& ~~~ BitVec.ofInt k.bits b).toNat)))
  | .eql => some (.bool (decide (a = b)))
  | .neq => some (.bool (decide (a ≠ b)))
  | .lss => some (.bool (decide (a < b)))
  | .leq => some (.bool (decide (a ≤ b)))
  | .gtr => some (.bool (decide (b < a)))
  | .geq => some (.bool (decide (b ≤ a)))
  | _ => none
def binSX (op : BinOp) (a b : List UInt8) : Option D :=
  match op with
  | .add => if a.length + b.length ≤ 9223372036854775807 then some (.str (a ++ b)) else none
  | .eql => some (.bool (decide (a = b)))
  | .neq => some (.bool (decide (a ≠ b)))
  | .lss => some (.bool (Op.bytesLess a b))
  | .leq => some (.bool (Op.bytesLess a b || decide (a = b)))
  | .gtr => some (.bool (!(Op.bytesLess a b || decide (a = b))))
  | .geq => some (.bool (!Op.bytesLess a b))
  | _ => none
def binX (op : BinOp) (x y : V) : Option D :=
  match x, y with
  | .d (.int k a), .d (.int k' b) =>
    match op with
    | .shl => if 0 ≤ b then some (.int k (k.wrap (a * 2 ^ (min b.toNat k.bits)))) else none
    | .shr => if 0 ≤ b then some (.int k (a / (2 ^ (min b.toNat k.bits)))) else none
    | op => if k = k' then binIX op k a b else none
  | .d (.str a), .d (.str b) => binSX op a b
  | _, _ => none
def unX (op : UnOp) (x : V) : Option D :=
  match op, x with
  | .neg, .d (.int k n) => some (.int k (k.wrap (0 - n)))
  | .xor, .d (.int k n) => some (.int k (k.wrap ((BitVec.ofInt k.bits (if k.signed then -1 else k.max) ^^^ BitVec.ofInt k.bits n).toNat)))
  | .not, .d (.bool b) => some (.bool (!b))
  | _, _ => none
def cellsX (v : V) (sz : Nat) : Option (List V) :=
  match v with
  | .agg cs => if cs.length = sz ∧ cs.all oneV = true then some cs else none
  | .any => none
  | .tup _ => none
  | .d x => if sz = 1 then some [.d x] else none
  | .osl a b c d e => if sz = 1 then some [.osl a b c d e] else none
  | .optr a b c d e => if sz = 1 then some [.optr a b c d e] else none
  | .fn f a b => if sz = 1 then some [.fn f a b] else none
def partsX (ev : Opd → V) : List (Nat × Nat × Opd) → List V → Option (List V)
  | [], cells => some cells
  | (off, sz, x) :: ps, cells => if off + sz ≤ cells.length then (cellsX (ev x) sz).bind fun cs => partsX ev ps (setR cells off cs) else none
def partsSlX (ev : Opd → V) (sz : Nat) : List (Nat × Opd) → List (List V) → Option (List (List V))
  | [], es => some es
  | (i, x) :: ps, es => if i < es.length then (cellsX (ev x) sz).bind fun cs => partsSlX ev sz ps (es.set i cs) else none
def bndX (ev : Opd → V) (o : Option Opd) (dflt : Int) : Option Int :=
  match o with
  | none => some dflt
  | some x => intX (ev x)
def liveX (rows : Rows) (h sz n : Nat) : Option (List (List V)) :=
  match rows[h]? with
  | some (.live s es) => if s = sz ∧ es.length = n then some es else none
  | _ => none
def elemsX (rows : Rows) (sz : Nat) (v : V) : Option (List (List V)) :=
  match v with
  | .d .nils => some []
  | .d (.sl s es) => if s = sz then some (es.map (·.map .d)) else none
  | .d (.str s) => if sz = 1 then some (s.map fun b => [.d (.int .u8 b.toNat)]) else none
  | .osl s h n off len => if s = sz then (liveX rows h sz n).map fun es => (es.drop off).take len else none
  | _ => none
def isByteX : List V → Bool
  | [.d (.int .u8 _)] => true
  | _ => false

abbrev ResX := Option (V × List (Nat × RowS))

def opX (o : AOp) (ev : Opd → V) (rows : Rows) (hf : Nat) : ResX :=
  match o with
  | .mov x => some (ev x, [])
  | .pick c a b =>
    match ev c with
    | .d (.bool t) => some (if t then ev a else ev b, [])
    | _ => none
  | .nilck x =>
    match ev x with
    | .d (.ptr cs) => some (.d (.ptr cs), [])
    | .optr sz h n i off => (liveX rows h sz n).map fun _ => (.optr sz h n i off, [])
    | .fn (.func f) a b => some (.fn (.func f) a b, [])
    | _ => none
  | .bin op x y => (binX op (ev x) (ev y)).map fun v => (.d v, [])
  | .eqB neg x y =>
    match ev x, ev y with
    | .d (.bool a), .d (.bool b) => some (.d (.bool (if neg then (a != b) else (a == b))), [])
    | _, _ => none
  | .eqS neg ks x y =>
    match ev x, ev y with
    | .agg a, .agg b => (eqC ks a b).map fun r => (.d (.bool (if neg then !r else r)), [])
    | _, _ => none
  | .isNil neg x y =>
    match ev x, ev y with
    | .d .nils, .d .nils => some (.d (.bool !neg), [])
    | .d (.sl _ (_ :: _)), .d .nils => some (.d (.bool neg), [])
    | _, _ => none
  | .un op x => (unX op (ev x)).map fun v => (.d v, [])
  | .conv k x =>
    match ev x with
    | .d (.int _ n) => some (.d (.int k (k.wrap n)), [])
    | _ => none
  | .same x =>
    match ev x with
    | .d (.str s) => some (.d (.str s), [])
    | _ => none
  | .s2b x =>
    match ev x with
    | .d (.str s) => some (.osl 1 hf s.length 0 s.length, [(hf, .live 1 (s.map fun b => [.d (.int .u8 b.toNat)]))])
    | _ => none
  | .b2s x => if notStr (ev x) = true then (elemsX rows 1 (ev x)).bind fun es => if es.all isByteX = true then some (.d (.str (es.map byteOfV)), []) else none else none
  | .alloc zero => some (.optr zero.length hf 1 0 0, [(hf, .live zero.length [zero.map .d])])
  | .box sz x => (cellsX (ev x) sz).map fun cs => (.optr sz hf 1 0 0, [(hf, .live sz [cs])])
  | .build zero parts => (partsX ev parts (zero.map .d)).map fun cs => (.agg cs, [])
  | .buildSl sz len zero parts => (partsSlX ev sz parts (List.replicate len (zero.map .d))).map fun es => (.osl sz hf len 0 len, [(hf, .live sz es)])
  | .load agg sz a =>
    match ev a with
    | .d (.ptr cs) =>
      match agg with
      | true => if sz ≤ cs.length then some (.agg ((cs.take sz).map .d), []) else none
      | false => cs[0]?.map fun x => (.d x, [])
    | .optr s h n i off =>
      (liveX rows h s n).bind fun es => if i < n ∧ off + sz ≤ s then es[i]?.bind fun e =>
        match agg with
        | true => some (.agg ((e.drop off).take sz), [])
        | false => if sz = 1 then e[off]?.map fun x => (x, []) else none
      else none
    | _ => none
  | .store sz a x =>
    match ev a with
    | .optr s h n i off =>
      (liveX rows h s n).bind fun es => if i < n ∧ off + sz ≤ s then (cellsX (ev x) sz).bind fun cs => es[i]?.map fun e => (.any, [(h, .live s (es.set i (setR e off cs)))]) else none
    | _ => none
  | .mksl sz bytes zero l c =>
    (intX (ev l)).bind fun l => (intX (ev c)).bind fun c => if 0 ≤ l ∧ l ≤ c ∧ c ≤ 9223372036854775807 ∧ bytes * c ≤ 281474976710656 then
      some (.osl sz hf l.toNat 0 l.toNat, [(hf, .live sz (List.replicate l.toNat (zero.map .d)))]) else none
  | .slice sz x lo hi =>
    match ev x with
    | .d .nils => if sz ≠ 0 then (bndX ev lo 0).bind fun l => (bndX ev hi 0).bind fun h => if l = 0 ∧ h = 0 then some (.d .nils, []) else none else none
    | .d (.sl s es) => if sz ≠ 0 ∧ s = sz then (bndX ev lo 0).bind fun l => (bndX ev hi es.length).bind fun h => if 0 ≤ l ∧ l ≤ h ∧ h ≤ es.length then some (.d (.sl sz ((es.take h.toNat).drop l.toNat)), []) else none else none
    | .d (.str s) => if sz = 0 then (bndX ev lo 0).bind fun l => (bndX ev hi s.length).bind fun h => if 0 ≤ l ∧ l ≤ h ∧ h ≤ s.length then some (.d (.str ((s.take h.toNat).drop l.toNat)), []) else none else none
    | .osl s hh n off len => if sz ≠ 0 ∧ s = sz then (liveX rows hh s n).bind fun _ => (bndX ev lo 0).bind fun l => (bndX ev hi len).bind fun h => if 0 ≤ l ∧ l ≤ h ∧ h ≤ len then some (.osl sz hh n (off + l.toNat) (h.toNat - l.toNat), []) else none else none
    | _ => none
  | .fldA off x =>
    match ev x with
    | .d (.ptr cs) => some (.d (.ptr (cs.drop off)), [])
    | .optr s h n i o => (liveX rows h s n).map fun _ => (.optr s h n i (o + off), [])
    | _ => none
  | .fld off sz agg x =>
    match ev x with
    | .agg cs =>
      match agg with
      | true => if off + sz ≤ cs.length then some (.agg ((cs.drop off).take sz), []) else none
      | false => cs[off]?.map fun v => (v, [])
    | _ => none
  | .idxA sz arr x i =>
    (intX (ev i)).bind fun j =>
      match arr, ev x with
      | none, .d (.sl s es) => if s = sz ∧ 0 ≤ j then es[j.toNat]?.map fun e => (.d (.ptr e), []) else none
      | none, .osl s h n off len => if s = sz ∧ 0 ≤ j ∧ j < len then (liveX rows h s n).map fun _ => (.optr sz h n (off + j.toNat) 0, []) else none
      | some m, .d (.ptr cs) => if 0 ≤ j ∧ j < m then some (.d (.ptr (cs.drop (j.toNat * sz))), []) else none
      | some m, .optr s h n i o => if 0 ≤ j ∧ j < m then (liveX rows h s n).map fun _ => (.optr s h n i (o + j.toNat * sz), []) else none
      | _, _ => none
  | .idx sz n agg x i =>
    (intX (ev i)).bind fun j =>
      match ev x with
      | .agg cs => if 0 ≤ j ∧ j < n ∧ cs.length = n * sz then
        match agg with
        | true => some (.agg ((cs.drop (j.toNat * sz)).take sz), [])
        | false => if sz = 1 then cs[j.toNat]?.map fun v => (v, []) else none
        else none
      | _ => none
  | .idxS x i =>
    (intX (ev i)).bind fun j =>
      match ev x with
      | .d (.str s) => if 0 ≤ j then s[j.toNat]?.map fun b => (.d (.int .u8 b.toNat), []) else none
      | _ => none
  | .ext x i =>
    match ev x with
    | .tup vs => vs[i]?.map fun v => (v, [])
    | _ => none
  | .mkfn f first cap => some (.fn f (first.map ev) (cap.map ev), [])
  | .len str x =>
    match str, ev x with
    | false, .d .nils => some (.d (.int .i64 0), [])
    | false, .d (.sl _ es) => some (.d (.int .i64 es.length), [])
    | true, .d (.str s) => some (.d (.int .i64 s.length), [])
    | false, .osl s h n _ len => (liveX rows h s n).map fun _ => (.d (.int .i64 len), [])
    | _, _ => none
  | .append sz bytes s x =>
    (elemsX rows sz (ev x)).bind fun xs =>
      match ev s with
      | .d .nils => if xs.length * bytes ≤ maxBytes then some (.osl sz hf xs.length 0 xs.length, [(hf, .live sz xs)]) else none
      | .osl s h n off len => if s = sz ∧ off = 0 ∧ len = n ∧ (n + xs.length) * bytes ≤ maxBytes then
        (liveX rows h sz n).map fun es => (.osl sz h (n + xs.length) 0 (n + xs.length), [(h, .live sz (es ++ xs))]) else none
      | _ => none
  | .copy sz d s =>
    (elemsX rows sz (ev s)).bind fun xs =>
      match ev d with
      | .d .nils => some (.d (.int .i64 0), [])
      | .osl s h n off len => if s = sz then (liveX rows h sz n).map fun es =>
        (.d (.int .i64 (min xs.length len : Nat)), [(h, .live sz (es.take off ++ xs.take len ++ es.drop (off + min xs.length len)))]) else none
      | _ => none
  | .mn x y =>
    match ev x, ev y with
    | .d (.int k a), .d (.int _ b) => some (.d (.int k (if b < a then b else a)), [])
    | _, _ => none
  | .mx x y =>
    match ev x, ev y with
    | .d (.int k a), .d (.int _ b) => some (.d (.int k (if a < b then b else a)), [])
    | _, _ => none

section
variable {ev : Opd → V} {rows : Rows}

theorem intX_ok {v : V} {n : Int} (h : intX v = some n) {K : Int → Prop} (hk : K n) : intW v K := by
  unfold intX at h; unfold intW
  split at h <;> simp_all
theorem binIX_ok {op : BinOp} {k : IntKind} {a b : Int} {d : D} (h : binIX op k a b = some d) {K : D → Prop} (hk : K d) : binI op k a b K := by
  cases op <;> simp only [binIX, binI] at h ⊢ <;> first
    | (injection h with h; subst h; exact hk)
    | (split at h <;> first | (cases h; done) | (rename_i hb; injection h with h; subst h; exact ⟨hb, hk⟩))
    | cases h
theorem binSX_ok {op : BinOp} {a b : List UInt8} {d : D} (h : binSX op a b = some d) {K : D → Prop} (hk : K d) : binS op a b K := by
  cases op <;> simp only [binSX, binS] at h ⊢ <;> first
    | (injection h with h; subst h; exact hk)
    | (split at h <;> first | (cases h; done) | (rename_i hb; injection h with h; subst h; exact ⟨hb, hk⟩))
    | cases h
theorem binX_ok {op : BinOp} {x y : V} {d : D} (h : binX op x y = some d) {K : D → Prop} (hk : K d) : binW op x y K := by
  unfold binX at h; unfold binW
  split at h
  · split at h
    · split at h
      · rename_i hb; injection h with h; subst h; exact ⟨hb, hk⟩
      · cases h
    · split at h
      · rename_i hb; injection h with h; subst h; exact ⟨hb, hk⟩
      · cases h
    · split at h
      · rename_i hb; cases op <;> first | exact ⟨hb, binIX_ok h hk⟩ | simp_all
      · cases h
  · exact binSX_ok h hk
  · cases h
theorem unX_ok {op : UnOp} {x : V} {d : D} (h : unX op x = some d) {K : D → Prop} (hk : K d) : unW op x K := by
  unfold unX at h; unfold unW
  split at h <;> first | (injection h with h; subst h; exact hk) | cases h
theorem cellsX_ok {v : V} {sz : Nat} {cs : List V} (h : cellsX v sz = some cs) {K : List V → Prop} (hk : K cs) : cellsW v sz K := by
  unfold cellsX at h; unfold cellsW
  split at h
  · split at h
    · rename_i hc; injection h with h; subst h; exact ⟨hc.1, fun v hv => List.all_eq_true.1 hc.2 v hv, hk⟩
    · cases h
  · cases h
  · cases h
  all_goals
    split at h
    · rename_i hc; injection h with h; subst h; exact ⟨hc, hk⟩
    · cases h
theorem partsX_ok : ∀ (ps : List (Nat × Nat × Opd)) (cells : List V) {cs : List V}, partsX ev ps cells = some cs → ∀ {K : List V → Prop}, K cs → partsW ev ps cells K
  | [], cells, cs, h, K, hk => by injection h with h; subst h; exact hk
  | (off, sz, x) :: ps, cells, cs, h, K, hk => by
    simp only [partsX] at h
    split at h
    · rename_i hc
      obtain ⟨c1, h1, h2⟩ := Option.bind_eq_some_iff.1 h
      exact ⟨hc, cellsX_ok h1 (partsX_ok ps _ h2 hk)⟩
    · cases h
theorem partsSlX_ok {sz : Nat} : ∀ (ps : List (Nat × Opd)) (es : List (List V)) {cs : List (List V)}, partsSlX ev sz ps es = some cs → ∀ {K : List (List V) → Prop}, K cs → partsSl ev sz ps es K
  | [], cells, cs, h, K, hk => by injection h with h; subst h; exact hk
  | (i, x) :: ps, cells, cs, h, K, hk => by
    simp only [partsSlX] at h
    split at h
    · rename_i hc
      obtain ⟨c1, h1, h2⟩ := Option.bind_eq_some_iff.1 h
      exact ⟨hc, cellsX_ok h1 (partsSlX_ok ps _ h2 hk)⟩
    · cases h
theorem bndX_ok {o : Option Opd} {d n : Int} (h : bndX ev o d = some n) {K : Int → Prop} (hk : K n) : bndW ev o d K := by
  unfold bndX at h; unfold bndW
  split at h
  · injection h with h; subst h; exact hk
  · exact intX_ok h hk
theorem liveX_ok {h sz n : Nat} {es : List (List V)} (hl : liveX rows h sz n = some es) : rows[h]? = some (.live sz es) ∧ es.length = n := by
  unfold liveX at hl
  split at hl
  · rename_i hr
    split at hl
    · rename_i hc; injection hl with hl; subst hl; rw [hr, hc.1]; exact ⟨rfl, hc.2⟩
    · cases hl
  · cases hl
theorem liveX_n {h sz n : Nat} {es : List (List V)} (hl : liveX rows h sz n = some es) : LiveN rows h sz n := ⟨es, liveX_ok hl⟩
theorem liveX_all {h sz n : Nat} {es : List (List V)} (hl : liveX rows h sz n = some es) {p : List (List V) → Prop} (hp : p es) : ∀ es', rows[h]? = some (.live sz es') → p es' := by
  intro es' he
  rw [(liveX_ok hl).1] at he
  injection he with he; injection he with _ he; subst he; exact hp
theorem elemsX_ok {sz : Nat} {v : V} {xs : List (List V)} (h : elemsX rows sz v = some xs) {K : List (List V) → Prop} (hk : K xs) : elemsW rows sz v K := by
  unfold elemsX at h; unfold elemsW
  split at h
  · injection h with h; subst h; exact hk
  · split at h
    · rename_i hc; injection h with h; subst h; exact ⟨hc, hk⟩
    · cases h
  · split at h
    · rename_i hc; injection h with h; subst h; exact ⟨hc, hk⟩
    · cases h
  · split at h
    · rename_i hc
      obtain ⟨es, h1, rfl⟩ := Option.map_eq_some_iff.1 h
      exact ⟨hc, ⟨es, liveX_ok h1⟩, liveX_all h1 hk⟩
    · cases h
  · cases h
theorem isByteX_ok {e : List V} (h : isByteX e = true) : isByte e := by
  unfold isByteX at h
  split at h
  · exact ⟨_, rfl⟩
  · cases h
theorem get_all {α : Type} {l : List α} {i : Nat} {x : α} (h : l[i]? = some x) {p : α → Prop} (hp : p x) : ∀ y, l[i]? = some y → p y := by
  intro y hy; rw [h] at hy; injection hy with hy; subst hy; exact hp
theorem get_lt {α : Type} {l : List α} {i : Nat} {x : α} (h : l[i]? = some x) : i < l.length := (List.getElem?_eq_some_iff.1 h).1

theorem opX_ok {o : AOp} {hf : Nat} {v : V} {u : List (Nat × RowS)} (h : opX o ev rows hf = some (v, u)) {K : V → List (Nat × RowS) → Prop} (hk : K v u) : opW o ev rows hf K := by
  have inj : ∀ {a b : V × List (Nat × RowS)}, some a = some b → K b.1 b.2 → K a.1 a.2 := fun e h => by injection e with e; subst e; exact h
  cases o with
  | mov x => exact inj h hk
  | pick c a b =>
    simp only [opX, opW] at h ⊢
    generalize ev c = gc at h ⊢
    split at h
    · exact inj h hk
    · cases h
  | nilck x =>
    simp only [opX, opW] at h ⊢
    generalize ev x = gx at h ⊢
    split at h
    · exact inj h hk
    · obtain ⟨es, h1, h2⟩ := Option.map_eq_some_iff.1 h
      injection h2 with h2 h3; subst h2 h3
      exact ⟨liveX_n h1, hk⟩
    · exact inj h hk
    · cases h
  | bin op x y =>
    simp only [opX, opW] at h ⊢
    obtain ⟨d, h1, h2⟩ := Option.map_eq_some_iff.1 h
    injection h2 with h2 h3; subst h2 h3
    exact binX_ok h1 hk
  | eqB neg x y =>
    simp only [opX, opW] at h ⊢
    generalize ev x = gx at h ⊢
    generalize ev y = gy at h ⊢
    split at h
    · exact inj h hk
    · cases h
  | eqS neg ks x y =>
    simp only [opX, opW] at h ⊢
    generalize ev x = gx at h ⊢
    generalize ev y = gy at h ⊢
    split at h
    · obtain ⟨r, h1, h2⟩ := Option.map_eq_some_iff.1 h
      simp only [eqR, h1]
      exact inj (congrArg some h2) hk
    · cases h
  | isNil neg x y =>
    simp only [opX, opW] at h ⊢
    generalize ev x = gx at h ⊢
    generalize ev y = gy at h ⊢
    split at h
    · exact inj h hk
    · exact inj h hk
    · cases h
  | un op x =>
    simp only [opX, opW] at h ⊢
    obtain ⟨d, h1, h2⟩ := Option.map_eq_some_iff.1 h
    injection h2 with h2 h3; subst h2 h3
    exact unX_ok h1 hk
  | conv k x =>
    simp only [opX, opW] at h ⊢
    generalize ev x = gx at h ⊢
    split at h
    · exact inj h hk
    · cases h
  | same x =>
    simp only [opX, opW] at h ⊢
    generalize ev x = gx at h ⊢
    split at h
    · exact inj h hk
    · cases h
  | s2b x =>
    simp only [opX, opW] at h ⊢
    generalize ev x = gx at h ⊢
    split at h
    · exact inj h hk
    · cases h
  | b2s x =>
    simp only [opX, opW] at h ⊢
    split at h
    · rename_i hn
      obtain ⟨es, h1, h2⟩ := Option.bind_eq_some_iff.1 h
      split at h2
      · rename_i hb
        exact ⟨hn, elemsX_ok h1 ⟨fun e he => isByteX_ok (List.all_eq_true.1 hb e he), inj h2 hk⟩⟩
      · cases h2
    · cases h
  | alloc zero => exact inj h hk
  | box sz x =>
    simp only [opX, opW] at h ⊢
    obtain ⟨d, h1, h2⟩ := Option.map_eq_some_iff.1 h
    injection h2 with h2 h3; subst h2 h3
    exact cellsX_ok h1 hk
  | build zero parts =>
    simp only [opX, opW] at h ⊢
    obtain ⟨d, h1, h2⟩ := Option.map_eq_some_iff.1 h
    injection h2 with h2 h3; subst h2 h3
    exact partsX_ok _ _ h1 hk
  | buildSl sz len zero parts =>
    simp only [opX, opW] at h ⊢
    obtain ⟨d, h1, h2⟩ := Option.map_eq_some_iff.1 h
    injection h2 with h2 h3; subst h2 h3
    exact partsSlX_ok _ _ h1 hk
  | load agg sz a =>
    simp only [opX, opW] at h ⊢
    generalize ev a = ga at h ⊢
    split at h
    · split at h
      · split at h
        · rename_i hc; exact ⟨hc, inj h hk⟩
        · cases h
      · obtain ⟨x, h1, h2⟩ := Option.map_eq_some_iff.1 h
        exact ⟨get_lt h1, get_all h1 (inj (congrArg some h2) hk)⟩
    · obtain ⟨es, h1, h2⟩ := Option.bind_eq_some_iff.1 h
      split at h2
      · rename_i hc
        obtain ⟨e, h3, h4⟩ := Option.bind_eq_some_iff.1 h2
        refine ⟨liveX_n h1, hc.1, hc.2, fun es' e' he' hi' => ?_⟩
        rw [(liveX_ok h1).1] at he'
        injection he' with he'; injection he' with _ he'; subst he'
        rw [h3] at hi'; injection hi' with hi'; subst hi'
        split at h4
        · exact inj h4 hk
        · split at h4
          · rename_i hs
            obtain ⟨x, h5, h6⟩ := Option.map_eq_some_iff.1 h4
            exact ⟨hs, get_lt h5, get_all h5 (inj (congrArg some h6) hk)⟩
          · cases h4
      · cases h2
    · cases h
  | store sz a x =>
    simp only [opX, opW] at h ⊢
    generalize ev a = ga at h ⊢
    split at h
    · obtain ⟨es, h1, h2⟩ := Option.bind_eq_some_iff.1 h
      split at h2
      · rename_i hc
        obtain ⟨cs, h3, h4⟩ := Option.bind_eq_some_iff.1 h2
        obtain ⟨e, h5, h6⟩ := Option.map_eq_some_iff.1 h4
        refine ⟨liveX_n h1, hc.1, hc.2, cellsX_ok h3 fun es' e' he' hi' => ?_⟩
        rw [(liveX_ok h1).1] at he'
        injection he' with he'; injection he' with _ he'; subst he'
        rw [h5] at hi'; injection hi' with hi'; subst hi'
        exact inj (congrArg some h6) hk
      · cases h2
    · cases h
  | mksl sz bytes zero l c =>
    simp only [opX, opW] at h ⊢
    obtain ⟨l', h1, h⟩ := Option.bind_eq_some_iff.1 h
    obtain ⟨c', h2, h⟩ := Option.bind_eq_some_iff.1 h
    split at h
    · rename_i hc
      exact intX_ok h1 (intX_ok h2 ⟨hc.1, hc.2.1, hc.2.2.1, hc.2.2.2, inj h hk⟩)
    · cases h
  | slice sz x lo hi =>
    simp only [opX, opW] at h ⊢
    generalize ev x = gx at h ⊢
    split at h
    · split at h
      · rename_i h0
        obtain ⟨l', h1, h⟩ := Option.bind_eq_some_iff.1 h
        obtain ⟨c', h2, h⟩ := Option.bind_eq_some_iff.1 h
        split at h
        · rename_i hc; exact ⟨h0, bndX_ok h1 (bndX_ok h2 ⟨hc.1, hc.2, inj h hk⟩)⟩
        · cases h
      · cases h
    · split at h
      · rename_i h0
        obtain ⟨l', h1, h⟩ := Option.bind_eq_some_iff.1 h
        obtain ⟨c', h2, h⟩ := Option.bind_eq_some_iff.1 h
        split at h
        · rename_i hc; exact ⟨h0.1, h0.2, bndX_ok h1 (bndX_ok h2 ⟨hc.1, hc.2.1, hc.2.2, inj h hk⟩)⟩
        · cases h
      · cases h
    · split at h
      · rename_i h0
        obtain ⟨l', h1, h⟩ := Option.bind_eq_some_iff.1 h
        obtain ⟨c', h2, h⟩ := Option.bind_eq_some_iff.1 h
        split at h
        · rename_i hc; exact ⟨h0, bndX_ok h1 (bndX_ok h2 ⟨hc.1, hc.2.1, hc.2.2, inj h hk⟩)⟩
        · cases h
      · cases h
    · split at h
      · rename_i h0
        obtain ⟨es, h3, h⟩ := Option.bind_eq_some_iff.1 h
        obtain ⟨l', h1, h⟩ := Option.bind_eq_some_iff.1 h
        obtain ⟨c', h2, h⟩ := Option.bind_eq_some_iff.1 h
        split at h
        · rename_i hc; exact ⟨h0.1, h0.2, liveX_n h3, bndX_ok h1 (bndX_ok h2 ⟨hc.1, hc.2.1, hc.2.2, inj h hk⟩)⟩
        · cases h
      · cases h
    · cases h
  | fldA off x =>
    simp only [opX, opW] at h ⊢
    generalize ev x = gx at h ⊢
    split at h
    · exact inj h hk
    · obtain ⟨es, h1, h2⟩ := Option.map_eq_some_iff.1 h
      exact ⟨liveX_n h1, inj (congrArg some h2) hk⟩
    · cases h
  | fld off sz agg x =>
    simp only [opX, opW] at h ⊢
    generalize ev x = gx at h ⊢
    split at h
    · split at h
      · split at h
        · rename_i hc; exact ⟨hc, inj h hk⟩
        · cases h
      · obtain ⟨x, h1, h2⟩ := Option.map_eq_some_iff.1 h
        exact ⟨get_lt h1, get_all h1 (inj (congrArg some h2) hk)⟩
    · cases h
  | idxA sz arr x i =>
    simp only [opX, opW] at h ⊢
    generalize ev x = gx at h ⊢
    obtain ⟨j, h0, h⟩ := Option.bind_eq_some_iff.1 h
    refine intX_ok h0 ?_
    split at h
    · split at h
      · rename_i hc
        obtain ⟨e, h1, h2⟩ := Option.map_eq_some_iff.1 h
        have := get_lt h1
        exact ⟨hc.1, hc.2, by omega, get_all h1 (inj (congrArg some h2) hk)⟩
      · cases h
    · split at h
      · rename_i hc
        obtain ⟨e, h1, h2⟩ := Option.map_eq_some_iff.1 h
        exact ⟨hc.1, liveX_n h1, hc.2.1, hc.2.2, inj (congrArg some h2) hk⟩
      · cases h
    · split at h
      · rename_i hc; exact ⟨hc.1, hc.2, inj h hk⟩
      · cases h
    · split at h
      · rename_i hc
        obtain ⟨e, h1, h2⟩ := Option.map_eq_some_iff.1 h
        exact ⟨liveX_n h1, hc.1, hc.2, inj (congrArg some h2) hk⟩
      · cases h
    · cases h
  | idx sz n agg x i =>
    simp only [opX, opW] at h ⊢
    generalize ev x = gx at h ⊢
    obtain ⟨j, h0, h⟩ := Option.bind_eq_some_iff.1 h
    refine intX_ok h0 ?_
    split at h
    · split at h
      · rename_i hc
        refine ⟨hc.1, hc.2.1, hc.2.2, ?_⟩
        split at h
        · exact inj h hk
        · split at h
          · rename_i hs
            obtain ⟨e, h1, h2⟩ := Option.map_eq_some_iff.1 h
            exact ⟨hs, get_all h1 (inj (congrArg some h2) hk)⟩
          · cases h
      · cases h
    · cases h
  | idxS x i =>
    simp only [opX, opW] at h ⊢
    generalize ev x = gx at h ⊢
    obtain ⟨j, h0, h⟩ := Option.bind_eq_some_iff.1 h
    refine intX_ok h0 ?_
    split at h
    · split at h
      · rename_i hc
        obtain ⟨e, h1, h2⟩ := Option.map_eq_some_iff.1 h
        have := get_lt h1
        exact ⟨hc, by omega, get_all h1 (inj (congrArg some h2) hk)⟩
      · cases h
    · cases h
  | ext x i =>
    simp only [opX, opW] at h ⊢
    generalize ev x = gx at h ⊢
    split at h
    · obtain ⟨e, h1, h2⟩ := Option.map_eq_some_iff.1 h
      exact ⟨get_lt h1, get_all h1 (inj (congrArg some h2) hk)⟩
    · cases h
  | mkfn f a b => exact inj h hk
  | len str x =>
    simp only [opX, opW] at h ⊢
    generalize ev x = gx at h ⊢
    split at h
    · exact inj h hk
    · exact inj h hk
    · exact inj h hk
    · obtain ⟨e, h1, h2⟩ := Option.map_eq_some_iff.1 h
      exact ⟨liveX_n h1, inj (congrArg some h2) hk⟩
    · cases h
  | append sz bytes s x =>
    simp only [opX, opW] at h ⊢
    generalize ev s = gs at h ⊢
    obtain ⟨xs, h0, h⟩ := Option.bind_eq_some_iff.1 h
    refine elemsX_ok h0 ?_
    split at h
    · split at h
      · rename_i hc; exact ⟨hc, inj h hk⟩
      · cases h
    · split at h
      · rename_i hc
        obtain ⟨e, h1, h2⟩ := Option.map_eq_some_iff.1 h
        exact ⟨hc.1, hc.2.1, hc.2.2.1, liveX_n h1, hc.2.2.2, liveX_all h1 (inj (congrArg some h2) hk)⟩
      · cases h
    · cases h
  | copy sz d s =>
    simp only [opX, opW] at h ⊢
    generalize ev d = gd at h ⊢
    obtain ⟨xs, h0, h⟩ := Option.bind_eq_some_iff.1 h
    refine elemsX_ok h0 ?_
    split at h
    · exact inj h hk
    · split at h
      · rename_i hc
        obtain ⟨e, h1, h2⟩ := Option.map_eq_some_iff.1 h
        exact ⟨hc, liveX_n h1, liveX_all h1 (inj (congrArg some h2) hk)⟩
      · cases h
    · cases h
  | mn x y =>
    simp only [opX, opW] at h ⊢
    generalize ev x = gx at h ⊢
    generalize ev y = gy at h ⊢
    split at h
    · exact inj h hk
    · cases h
  | mx x y =>
    simp only [opX, opW] at h ⊢
    generalize ev x = gx at h ⊢
    generalize ev y = gy at h ⊢
    split at h
    · exact inj h hk
    · cases h

end
end Go.Vx
