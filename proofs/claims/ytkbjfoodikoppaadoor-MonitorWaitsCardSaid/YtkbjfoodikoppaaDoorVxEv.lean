import Derived.Test.YtkbjfoodikoppaaDoorVxAll
set_option linter.unusedSectionVars false
set_option linter.unusedSimpArgs false
set_option linter.unusedVariables false
namespace Go.Vx

/-! A reckoner for closed calls. -/

def intX : V → Option Int
  | .d (.int _ n) => some n
  | _ => none
def binIX (op : BinOp) (k : IntKind) (a b : Int) : Option D :=
  match op with
  | .add => some (.int k (k.wrap (a + b)))
  | .sub => some (.int k (k.wrap (a - b)))
  | .mul => some (.int k (k.wrap (a * b)))
  | .quo => if b ≠ 0 then some (.int k (k.wrap (a.tdiv b))) else none
  | .rem => if b ≠ 0 then some (.int k (a.tmod b)) else none
  | .and => some (.int k (k.wrap ((BitVec.ofInt k.bits a &&& BitVec.ofInt k.bits b).toNat)))
  | .or => some (.int k (k.wrap ((BitVec.ofInt k.bits a ||| BitVec.ofInt k.bits b).toNat)))
  | .xor => some (.int k (k.wrap ((BitVec.ofInt k.bits a ^^^ BitVec.ofInt k.bits b).toNat)))
  | .andNot => some (.int k (k.wrap ((BitVec.ofInt k.bits a &&& ~~~ BitVec.ofInt k.bits b).toNat)))
  | .eql => some (.bool (decide (a = b)))
  | .neq => some (.bool (decide (a ≠ b)))
  | .lss => some (.bool (decide (a < b)))
  | .leq => some (.bool (decide (a ≤ b)))
  | .gtr => some (.bool (decide (b < a)))
  | .geq => some (.bool (decide (b ≤ a)))
  | _ => none
def binSX (op : BinOp) (a b : List UInt8) : Option D :=
  match op with
  | .add => if a.length + b.length ≤ 9223372036854775807 then some (.str (a ++ b)) else none
  | .eql => some (.bool (decide (a = b)))
  | .neq => some (.bool (decide (a ≠ b)))
  | .lss => some (.bool (Op.bytesLess a b))
  | .leq => some (.bool (Op.bytesLess a b || decide (a = b)))
  | .gtr => some (.bool (!(Op.bytesLess a b || decide (a = b))))
  | .geq => some (.bool (!Op.bytesLess a b))
  | _ => none
def binX (op : BinOp) (x y : V) : Option D :=
  match x, y with
  | .d (.int k a), .d (.int k' b) =>
    match op with
    | .shl => if 0 ≤ b then some (.int k (k.wrap (a * 2 ^ (min b.toNat k.bits)))) else none
    | .shr => if 0 ≤ b then some (.int k (a / (2 ^ (min b.toNat k.bits)))) else none
    | op => if k = k' then binIX op k a b else none
  | .d (.str a), .d (.str b) => binSX op a b
  | _, _ => none
def unX (op : UnOp) (x : V) : Option D :=
  match op, x with
  | .neg, .d (.int k n) => some (.int k (k.wrap (0 - n)))
  | .xor, .d (.int k n) => some (.int k (k.wrap ((BitVec.ofInt k.bits (if k.signed then -1 else k.max) ^^^ BitVec.ofInt k.bits n).toNat)))
  | .not, .d (.bool b) => some (.bool (!b))
  | _, _ => none
def cellsX (v : V) (sz : Nat) : Option (List V) :=
  match v with
  | .agg cs => if cs.length = sz ∧ cs.all oneV = true then some cs else none
  | .any => none
  | .tup _ => none
  | .d x => if sz = 1 then some [.d x] else none
  | .osl a b c d e => if sz = 1 then some [.osl a b c d e] else none
  | .optr a b c d e => if sz = 1 then some [.optr a b c d e] else none
  | .fn f a b => if sz = 1 then some [.fn f a b] else none
def partsX (ev : Opd → V) : List (Nat × Nat × Opd) → List V → Option (List V)
  | [], cells => some cells
  | (off, sz, x) :: ps, cells => if off + sz ≤ cells.length then (cellsX (ev x) sz).bind fun cs => partsX ev ps (setR cells off cs) else none
def partsSlX (ev : Opd → V) (sz : Nat) : List (Nat × Opd) → List (List V) → Option (List (List V))
  | [], es => some es
  | (i, x) :: ps, es => if i < es.length then (cellsX (ev x) sz).bind fun cs => partsSlX ev sz ps (es.set i cs) else none
def bndX (ev : Opd → V) (o : Option Opd) (dflt : Int) : Option Int :=
  match o with
  | none => some dflt
  | some x => intX (ev x)
def liveX (rows : Rows) (h sz n : Nat) : Option (List (List V)) :=
  match rows[h]? with
  | some (.live s es) => if s = sz ∧ es.length = n then some es else none
  | _ => none
def elemsX (rows : Rows) (sz : Nat) (v : V) : Option (List (List V)) :=
  match v with
  | .d .nils => some []
  | .d (.sl s es) => if s = sz then some (es.map (·.map .d)) else none
  | .d (.str s) => if sz = 1 then some (s.map fun b => [.d (.int .u8 b.toNat)]) else none
  | .osl s h n off len => if s = sz then (liveX rows h sz n).map fun es => (es.drop off).take len else none
  | _ => none
def isByteX : List V → Bool
  | [.d (.int .u8 _)] => true
  | _ => false

abbrev ResX := Option (V × List (Nat × RowS))

def opX (o : AOp) (ev : Opd → V) (rows : Rows) (hf : Nat) : ResX :=
  match o with
  | .mov x => some (ev x, [])
  | .pick c a b =>
    match ev c with
    | .d (.bool t) => some (if t then ev a else ev b, [])
    | _ => none
  | .nilck x =>
    match ev x with
    | .d (.ptr cs) => some (.d (.ptr cs), [])
    | .optr sz h n i off => (liveX rows h sz n).map fun _ => (.optr sz h n i off, [])
    | .fn (.func f) a b => some (.fn (.func f) a b, [])
    | _ => none
  | .bin op x y => (binX op (ev x) (ev y)).map fun v => (.d v, [])
  | .eqB neg x y =>
    match ev x, ev y with
    | .d (.bool a), .d (.bool b) => some (.d (.bool (if neg then (a != b) else (a == b))), [])
    | _, _ => none
  | .eqS neg ks x y =>
    match ev x, ev y with
    | .agg a, .agg b => (eqC ks a b).map fun r => (.d (.bool (if neg then !r else r)), [])
    | _, _ => none
  | .isNil neg x y =>
    match ev x, ev y with
    | .d .nils, .d .nils => some (.d (.bool !neg), [])
    | .d (.sl _ (_ :: _)), .d .nils => some (.d (.bool neg), [])
    | _, _ => none
  | .un op x => (unX op (ev x)).map fun v => (.d v, [])
  | .conv k x =>
    match ev x with
    | .d (.int _ n) => some (.d (.int k (k.wrap n)), [])
    | _ => none
  | .same x =>
    match ev x with
    | .d (.str s) => some (.d (.str s), [])
    | _ => none
  | .s2b x =>
    match ev x with
    | .d (.str s) => some (.osl 1 hf s.length 0 s.length, [(hf, .live 1 (s.map fun b => [.d (.int .u8 b.toNat)]))])
    | _ => none
  | .b2s x => if notStr (ev x) = true then (elemsX rows 1 (ev x)).bind fun es => if es.all isByteX = true then some (.d (.str (es.map byteOfV)), []) else none else none
  | .alloc zero => some (.optr zero.length hf 1 0 0, [(hf, .live zero.length [zero.map .d])])
  | .box sz x => (cellsX (ev x) sz).map fun cs => (.optr sz hf 1 0 0, [(hf, .live sz [cs])])
  | .build zero parts => (partsX ev parts (zero.map .d)).map fun cs => (.agg cs, [])
  | .buildSl sz len zero parts => (partsSlX ev sz parts (List.replicate len (zero.map .d))).map fun es => (.osl sz hf len 0 len, [(hf, .live sz es)])
  | .load agg sz a =>
    match ev a with
    | .d (.ptr cs) =>
      match agg with
      | true => if sz ≤ cs.length then some (.agg ((cs.take sz).map .d), []) else none
      | false => cs[0]?.map fun x => (.d x, [])
    | .optr s h n i off =>
      (liveX rows h s n).bind fun es => if i < n ∧ off + sz ≤ s then es[i]?.bind fun e =>
        match agg with
        | true => some (.agg ((e.drop off).take sz), [])
        | false => if sz = 1 then e[off]?.map fun x => (x, []) else none
      else none
    | _ => none
  | .store sz a x =>
    match ev a with
    | .optr s h n i off =>
      (liveX rows h s n).bind fun es => if i < n ∧ off + sz ≤ s then (cellsX (ev x) sz).bind fun cs => es[i]?.map fun e => (.any, [(h, .live s (es.set i (setR e off cs)))]) else none
    | _ => none
  | .mksl sz bytes zero l c =>
    (intX (ev l)).bind fun l => (intX (ev c)).bind fun c => if 0 ≤ l ∧ l ≤ c ∧ c ≤ 9223372036854775807 ∧ bytes * c ≤ 281474976710656 then
      some (.osl sz hf l.toNat 0 l.toNat, [(hf, .live sz (List.replicate l.toNat (zero.map .d)))]) else none
  | .slice sz x lo hi =>
    match ev x with
    | .d .nils => if sz ≠ 0 then (bndX ev lo 0).bind fun l => (bndX ev hi 0).bind fun h => if l = 0 ∧ h = 0 then some (.d .nils, []) else none else none
    | .d (.sl s es) => if sz ≠ 0 ∧ s = sz then (bndX ev lo 0).bind fun l => (bndX ev hi es.length).bind fun h => if 0 ≤ l ∧ l ≤ h ∧ h ≤ es.length then some (.d (.sl sz ((es.take h.toNat).drop l.toNat)), []) else none else none
    | .d (.str s) => if sz = 0 then (bndX ev lo 0).bind fun l => (bndX ev hi s.length).bind fun h => if 0 ≤ l ∧ l ≤ h ∧ h ≤ s.length then some (.d (.str ((s.take h.toNat).drop l.toNat)), []) else none else none
    | .osl s hh n off len => if sz ≠ 0 ∧ s = sz then (liveX rows hh s n).bind fun _ => (bndX ev lo 0).bind fun l => (bndX ev hi len).bind fun h => if 0 ≤ l ∧ l ≤ h ∧ h ≤ len then some (.osl sz hh n (off + l.toNat) (h.toNat - l.toNat), []) else none else none
    | _ => none
  | .fldA off x =>
    match ev x with
    | .d (.ptr cs) => some (.d (.ptr (cs.drop off)), [])
    | .optr s h n i o => (liveX rows h s n).map fun _ => (.optr s h n i (o + off), [])
    | _ => none
  | .fld off sz agg x =>
    match ev x with
    | .agg cs =>
      match agg with
      | true => if off + sz ≤ cs.length then some (.agg ((cs.drop off).take sz), []) else none
      | false => cs[off]?.map fun v => (v, [])
    | _ => none
  | .idxA sz arr x i =>
    (intX (ev i)).bind fun j =>
      match arr, ev x with
      | none, .d (.sl s es) => if s = sz ∧ 0 ≤ j then es[j.toNat]?.map fun e => (.d (.ptr e), []) else none
      | none, .osl s h n off len => if s = sz ∧ 0 ≤ j ∧ j < len then (liveX rows h s n).map fun _ => (.optr sz h n (off + j.toNat) 0, []) else none
      | some m, .d (.ptr cs) => if 0 ≤ j ∧ j < m then some (.d (.ptr (cs.drop (j.toNat * sz))), []) else none
      | some m, .optr s h n i o => if 0 ≤ j ∧ j < m then (liveX rows h s n).map fun _ => (.optr s h n i (o + j.toNat * sz), []) else none
      | _, _ => none
  | .idx sz n agg x i =>
    (intX (ev i)).bind fun j =>
      match ev x with
      | .agg cs => if 0 ≤ j ∧ j < n ∧ cs.length = n * sz then
        match agg with
        | true => some (.agg ((cs.drop (j.toNat * sz)).take sz), [])
        | false => if sz = 1 then cs[j.toNat]?.map fun v => (v, []) else none
        else none
      | _ => none
  | .idxS x i =>
    (intX (ev i)).bind fun j =>
      match ev x with
      | .d (.str s) => if 0 ≤ j then s[j.toNat]?.map fun b => (.d (.int .u8 b.toNat), []) else none
      | _ => none
  | .ext x i =>
    match ev x with
    | .tup vs => vs[i]?.map fun v => (v, [])
    | _ => none
  | .mkfn f first cap => some (.fn f (first.map ev) (cap.map ev), [])
  | .len str x =>
    match str, ev x with
    | false, .d .nils => some (.d (.int .i64 0), [])
    | false, .d (.sl _ es) => some (.d (.int .i64 es.length), [])
    | true, .d (.str s) => some (.d (.int .i64 s.length), [])
    | false, .osl s h n _ len => (liveX rows h s n).map fun _ => (.d (.int .i64 len), [])
    | _, _ => none
  | .append sz bytes s x =>
    (elemsX rows sz (ev x)).bind fun xs =>
      match ev s with
      | .d .nils => if xs.length * bytes ≤ maxBytes then some (.osl sz hf xs.length 0 xs.length, [(hf, .live sz xs)]) else none
      | .osl s h n off len => if s = sz ∧ off = 0 ∧ len = n ∧ (n + xs.length) * bytes ≤ maxBytes then
        (liveX rows h sz n).map fun es => (.osl sz h (n + xs.length) 0 (n + xs.length), [(h, .live sz (es ++ xs))]) else none
      | _ => none
  | .copy sz d s =>
    (elemsX rows sz (ev s)).bind fun xs =>
      match ev d with
      | .d .nils => some (.d (.int .i64 0), [])
      | .osl s h n off len => if s = sz then (liveX rows h sz n).map fun es =>
        (.d (.int .i64 (min xs.length len : Nat)), [(h, .live sz (es.take off ++ xs.take len ++ es.drop (off + min xs.length len)))]) else none
      | _ => none
  | .clr sz zero x =>
    match ev x with
    | .osl s h n off len => if s = sz ∧ off + len ≤ n then (liveX rows h sz n).map fun es =>
      (.tup [], [(h, .live sz (es.take off ++ List.replicate len (zero.map .d) ++ es.drop (off + len)))]) else none
    | _ => none
  | .mn x y =>
    match ev x, ev y with
    | .d (.int k a), .d (.int _ b) => some (.d (.int k (if b < a then b else a)), [])
    | _, _ => none
  | .mx x y =>
    match ev x, ev y with
    | .d (.int k a), .d (.int _ b) => some (.d (.int k (if a < b then b else a)), [])
    | _, _ => none
  | .bad => none
  | .idxB x y =>
    match ev x, ev y with
    | .d (.str s), .d (.int .u8 c) => some (.d (.int .i64 (Lib.indexByte s c.toNat.toUInt8)), [])
    | _, _ => none
  | .rng x =>
    match ev x with
    | .d (.str s) => some (.optr 0 hf 0 0 0, [(hf, .obj (.it s 0))])
    | _ => none
  | .nxt x =>
    match ev x with
    | .optr 0 h 0 0 0 =>
      match rows[h]? with
      | some (.obj (.it s pos)) =>
        if pos < s.length then some (.tup [.d (.bool true), .d (.int .i64 pos), .d (.int .i32 (runeAt s pos).1)], [(h, .obj (.it s (pos + (runeAt s pos).2)))])
        else some (.tup [.d (.bool false)], [])
      | _ => none
    | _ => none
  | .mkmap => some (.optr 0 hf 0 1 0, [(hf, .obj (.mp []))])
  | .lkp ok z m k =>
    match ev m, ev k with
    | .optr 0 h 0 1 0, .d (.str s) =>
      if isSc z = true then match rows[h]? with
        | some (.obj (.mp es)) => some (if ok then .tup [.d (mpGet z es s), .d (.bool (mpHas es s))] else .d (mpGet z es s), [])
        | _ => none
      else none
    | _, _ => none
  | .upd m k v =>
    match ev m, ev k, ev v with
    | .optr 0 h 0 1 0, .d (.str s), .d x =>
      if isSc x = true then match rows[h]? with
        | some (.obj (.mp es)) => some (.any, [(h, .obj (.mp (mpPut es s x)))])
        | _ => none
      else none
    | _, _, _ => none

section
variable {ev : Opd → V} {rows : Rows}

theorem intX_ok {v : V} {n : Int} (h : intX v = some n) {K : Int → Prop} (hk : K n) : intW v K := by
  unfold intX at h; unfold intW
  split at h <;> simp_all
theorem binIX_ok {op : BinOp} {k : IntKind} {a b : Int} {d : D} (h : binIX op k a b = some d) {K : D → Prop} (hk : K d) : binI op k a b K := by
  cases op <;> simp only [binIX, binI] at h ⊢ <;> first
    | (injection h with h; subst h; exact hk)
    | (split at h <;> first | (cases h; done) | (rename_i hb; injection h with h; subst h; exact ⟨hb, hk⟩))
    | cases h
theorem binSX_ok {op : BinOp} {a b : List UInt8} {d : D} (h : binSX op a b = some d) {K : D → Prop} (hk : K d) : binS op a b K := by
  cases op <;> simp only [binSX, binS] at h ⊢ <;> first
    | (injection h with h; subst h; exact hk)
    | (split at h <;> first | (cases h; done) | (rename_i hb; injection h with h; subst h; exact ⟨hb, hk⟩))
    | cases h
theorem binX_ok {op : BinOp} {x y : V} {d : D} (h : binX op x y = some d) {K : D → Prop} (hk : K d) : binW op x y K := by
  unfold binX at h; unfold binW
  split at h
  · split at h
    · split at h
      · rename_i hb; injection h with h; subst h; exact ⟨hb, hk⟩
      · cases h
    · split at h
      · rename_i hb; injection h with h; subst h; exact ⟨hb, hk⟩
      · cases h
    · split at h
      · rename_i hb; cases op <;> first | exact ⟨hb, binIX_ok h hk⟩ | simp_all
      · cases h
  · exact binSX_ok h hk
  · cases h
theorem unX_ok {op : UnOp} {x : V} {d : D} (h : unX op x = some d) {K : D → Prop} (hk : K d) : unW op x K := by
  unfold unX at h; unfold unW
  split at h <;> first | (injection h with h; subst h; exact hk) | cases h
theorem cellsX_ok {v : V} {sz : Nat} {cs : List V} (h : cellsX v sz = some cs) {K : List V → Prop} (hk : K cs) : cellsW v sz K := by
  unfold cellsX at h; unfold cellsW
  split at h
  · split at h
    · rename_i hc; injection h with h; subst h; exact ⟨hc.1, fun v hv => List.all_eq_true.1 hc.2 v hv, hk⟩
    · cases h
  · cases h
  · cases h
  all_goals
    split at h
    · rename_i hc; injection h with h; subst h; exact ⟨hc, hk⟩
    · cases h
theorem partsX_ok : ∀ (ps : List (Nat × Nat × Opd)) (cells : List V) {cs : List V}, partsX ev ps cells = some cs → ∀ {K : List V → Prop}, K cs → partsW ev ps cells K
  | [], cells, cs, h, K, hk => by injection h with h; subst h; exact hk
  | (off, sz, x) :: ps, cells, cs, h, K, hk => by
    simp only [partsX] at h
    split at h
    · rename_i hc
      obtain ⟨c1, h1, h2⟩ := Option.bind_eq_some_iff.1 h
      exact ⟨hc, cellsX_ok h1 (partsX_ok ps _ h2 hk)⟩
    · cases h
theorem partsSlX_ok {sz : Nat} : ∀ (ps : List (Nat × Opd)) (es : List (List V)) {cs : List (List V)}, partsSlX ev sz ps es = some cs → ∀ {K : List (List V) → Prop}, K cs → partsSl ev sz ps es K
  | [], cells, cs, h, K, hk => by injection h with h; subst h; exact hk
  | (i, x) :: ps, cells, cs, h, K, hk => by
    simp only [partsSlX] at h
    split at h
    · rename_i hc
      obtain ⟨c1, h1, h2⟩ := Option.bind_eq_some_iff.1 h
      exact ⟨hc, cellsX_ok h1 (partsSlX_ok ps _ h2 hk)⟩
    · cases h
theorem bndX_ok {o : Option Opd} {d n : Int} (h : bndX ev o d = some n) {K : Int → Prop} (hk : K n) : bndW ev o d K := by
  unfold bndX at h; unfold bndW
  split at h
  · injection h with h; subst h; exact hk
  · exact intX_ok h hk
theorem liveX_ok {h sz n : Nat} {es : List (List V)} (hl : liveX rows h sz n = some es) : rows[h]? = some (.live sz es) ∧ es.length = n := by
  unfold liveX at hl
  split at hl
  · rename_i hr
    split at hl
    · rename_i hc; injection hl with hl; subst hl; rw [hr, hc.1]; exact ⟨rfl, hc.2⟩
    · cases hl
  · cases hl
theorem liveX_n {h sz n : Nat} {es : List (List V)} (hl : liveX rows h sz n = some es) : LiveN rows h sz n := ⟨es, liveX_ok hl⟩
theorem liveX_all {h sz n : Nat} {es : List (List V)} (hl : liveX rows h sz n = some es) {p : List (List V) → Prop} (hp : p es) : ∀ es', rows[h]? = some (.live sz es') → p es' := by
  intro es' he
  rw [(liveX_ok hl).1] at he
  injection he with he; injection he with _ he; subst he; exact hp
theorem elemsX_ok {sz : Nat} {v : V} {xs : List (List V)} (h : elemsX rows sz v = some xs) {K : List (List V) → Prop} (hk : K xs) : elemsW rows sz v K := by
  unfold elemsX at h; unfold elemsW
  split at h
  · injection h with h; subst h; exact hk
  · split at h
    · rename_i hc; injection h with h; subst h; exact ⟨hc, hk⟩
    · cases h
  · split at h
    · rename_i hc; injection h with h; subst h; exact ⟨hc, hk⟩
    · cases h
  · split at h
    · rename_i hc
      obtain ⟨es, h1, rfl⟩ := Option.map_eq_some_iff.1 h
      exact ⟨hc, ⟨es, liveX_ok h1⟩, liveX_all h1 hk⟩
    · cases h
  · cases h
theorem isByteX_ok {e : List V} (h : isByteX e = true) : isByte e := by
  unfold isByteX at h
  split at h
  · exact ⟨_, rfl⟩
  · cases h
theorem get_all {α : Type} {l : List α} {i : Nat} {x : α} (h : l[i]? = some x) {p : α → Prop} (hp : p x) : ∀ y, l[i]? = some y → p y := by
  intro y hy; rw [h] at hy; injection hy with hy; subst hy; exact hp
theorem get_lt {α : Type} {l : List α} {i : Nat} {x : α} (h : l[i]? = some x) : i < l.length := (List.getElem?_eq_some_iff.1 h).1

theorem opX_ok {o : AOp} {hf : Nat} {v : V} {u : List (Nat × RowS)} (h : opX o ev rows hf = some (v, u)) {K : V → List (Nat × RowS) → Prop} (hk : K v u) : opW o ev rows hf K := by
  have inj : ∀ {a b : V × List (Nat × RowS)}, some a = some b → K b.1 b.2 → K a.1 a.2 := fun e h => by injection e with e; subst e; exact h
  cases o with
  | mov x => exact inj h hk
  | pick c a b =>
    simp only [opX, opW] at h ⊢
    generalize ev c = gc at h ⊢
    split at h
    · exact inj h hk
    · cases h
  | nilck x =>
    simp only [opX, opW] at h ⊢
    generalize ev x = gx at h ⊢
    split at h
    · exact inj h hk
    · obtain ⟨es, h1, h2⟩ := Option.map_eq_some_iff.1 h
      injection h2 with h2 h3; subst h2 h3
      exact ⟨liveX_n h1, hk⟩
    · exact inj h hk
    · cases h
  | bin op x y =>
    simp only [opX, opW] at h ⊢
    obtain ⟨d, h1, h2⟩ := Option.map_eq_some_iff.1 h
    injection h2 with h2 h3; subst h2 h3
    exact binX_ok h1 hk
  | eqB neg x y =>
    simp only [opX, opW] at h ⊢
    generalize ev x = gx at h ⊢
    generalize ev y = gy at h ⊢
    split at h
    · exact inj h hk
    · cases h
  | eqS neg ks x y =>
    simp only [opX, opW] at h ⊢
    generalize ev x = gx at h ⊢
    generalize ev y = gy at h ⊢
    split at h
    · obtain ⟨r, h1, h2⟩ := Option.map_eq_some_iff.1 h
      simp only [eqR, h1]
      exact inj (congrArg some h2) hk
    · cases h
  | isNil neg x y =>
    simp only [opX, opW] at h ⊢
    generalize ev x = gx at h ⊢
    generalize ev y = gy at h ⊢
    split at h
    · exact inj h hk
    · exact inj h hk
    · cases h
  | un op x =>
    simp only [opX, opW] at h ⊢
    obtain ⟨d, h1, h2⟩ := Option.map_eq_some_iff.1 h
    injection h2 with h2 h3; subst h2 h3
    exact unX_ok h1 hk
  | conv k x =>
    simp only [opX, opW] at h ⊢
    generalize ev x = gx at h ⊢
    split at h
    · exact inj h hk
    · cases h
  | same x =>
    simp only [opX, opW] at h ⊢
    generalize ev x = gx at h ⊢
    split at h
    · exact inj h hk
    · cases h
  | s2b x =>
    simp only [opX, opW] at h ⊢
    generalize ev x = gx at h ⊢
    split at h
    · exact inj h hk
    · cases h
  | b2s x =>
    simp only [opX, opW] at h ⊢
    split at h
    · rename_i hn
      obtain ⟨es, h1, h2⟩ := Option.bind_eq_some_iff.1 h
      split at h2
      · rename_i hb
        exact ⟨hn, elemsX_ok h1 ⟨fun e he => isByteX_ok (List.all_eq_true.1 hb e he), inj h2 hk⟩⟩
      · cases h2
    · cases h
  | alloc zero => exact inj h hk
  | box sz x =>
    simp only [opX, opW] at h ⊢
    obtain ⟨d, h1, h2⟩ := Option.map_eq_some_iff.1 h
    injection h2 with h2 h3; subst h2 h3
    exact cellsX_ok h1 hk
  | build zero parts =>
    simp only [opX, opW] at h ⊢
    obtain ⟨d, h1, h2⟩ := Option.map_eq_some_iff.1 h
    injection h2 with h2 h3; subst h2 h3
    exact partsX_ok _ _ h1 hk
  | buildSl sz len zero parts =>
    simp only [opX, opW] at h ⊢
    obtain ⟨d, h1, h2⟩ := Option.map_eq_some_iff.1 h
    injection h2 with h2 h3; subst h2 h3
    exact partsSlX_ok _ _ h1 hk
  | load agg sz a =>
    simp only [opX, opW] at h ⊢
    generalize ev a = ga at h ⊢
    split at h
    · split at h
      · split at h
        · rename_i hc; exact ⟨hc, inj h hk⟩
        · cases h
      · obtain ⟨x, h1, h2⟩ := Option.map_eq_some_iff.1 h
        exact ⟨get_lt h1, get_all h1 (inj (congrArg some h2) hk)⟩
    · obtain ⟨es, h1, h2⟩ := Option.bind_eq_some_iff.1 h
      split at h2
      · rename_i hc
        obtain ⟨e, h3, h4⟩ := Option.bind_eq_some_iff.1 h2
        refine ⟨liveX_n h1, hc.1, hc.2, fun es' e' he' hi' => ?_⟩
        rw [(liveX_ok h1).1] at he'
        injection he' with he'; injection he' with _ he'; subst he'
        rw [h3] at hi'; injection hi' with hi'; subst hi'
        split at h4
        · exact inj h4 hk
        · split at h4
          · rename_i hs
            obtain ⟨x, h5, h6⟩ := Option.map_eq_some_iff.1 h4
            exact ⟨hs, get_lt h5, get_all h5 (inj (congrArg some h6) hk)⟩
          · cases h4
      · cases h2
    · cases h
  | store sz a x =>
    simp only [opX, opW] at h ⊢
    generalize ev a = ga at h ⊢
    split at h
    · obtain ⟨es, h1, h2⟩ := Option.bind_eq_some_iff.1 h
      split at h2
      · rename_i hc
        obtain ⟨cs, h3, h4⟩ := Option.bind_eq_some_iff.1 h2
        obtain ⟨e, h5, h6⟩ := Option.map_eq_some_iff.1 h4
        refine ⟨liveX_n h1, hc.1, hc.2, cellsX_ok h3 fun es' e' he' hi' => ?_⟩
        rw [(liveX_ok h1).1] at he'
        injection he' with he'; injection he' with _ he'; subst he'
        rw [h5] at hi'; injection hi' with hi'; subst hi'
        exact inj (congrArg some h6) hk
      · cases h2
    · cases h
  | mksl sz bytes zero l c =>
    simp only [opX, opW] at h ⊢
    obtain ⟨l', h1, h⟩ := Option.bind_eq_some_iff.1 h
    obtain ⟨c', h2, h⟩ := Option.bind_eq_some_iff.1 h
    split at h
    · rename_i hc
      exact intX_ok h1 (intX_ok h2 ⟨hc.1, hc.2.1, hc.2.2.1, hc.2.2.2, inj h hk⟩)
    · cases h
  | slice sz x lo hi =>
    simp only [opX, opW] at h ⊢
    generalize ev x = gx at h ⊢
    split at h
    · split at h
      · rename_i h0
        obtain ⟨l', h1, h⟩ := Option.bind_eq_some_iff.1 h
        obtain ⟨c', h2, h⟩ := Option.bind_eq_some_iff.1 h
        split at h
        · rename_i hc; exact ⟨h0, bndX_ok h1 (bndX_ok h2 ⟨hc.1, hc.2, inj h hk⟩)⟩
        · cases h
      · cases h
    · split at h
      · rename_i h0
        obtain ⟨l', h1, h⟩ := Option.bind_eq_some_iff.1 h
        obtain ⟨c', h2, h⟩ := Option.bind_eq_some_iff.1 h
        split at h
        · rename_i hc; exact ⟨h0.1, h0.2, bndX_ok h1 (bndX_ok h2 ⟨hc.1, hc.2.1, hc.2.2, inj h hk⟩)⟩
        · cases h
      · cases h
    · split at h
      · rename_i h0
        obtain ⟨l', h1, h⟩ := Option.bind_eq_some_iff.1 h
        obtain ⟨c', h2, h⟩ := Option.bind_eq_some_iff.1 h
        split at h
        · rename_i hc; exact ⟨h0, bndX_ok h1 (bndX_ok h2 ⟨hc.1, hc.2.1, hc.2.2, inj h hk⟩)⟩
        · cases h
      · cases h
    · split at h
      · rename_i h0
        obtain ⟨es, h3, h⟩ := Option.bind_eq_some_iff.1 h
        obtain ⟨l', h1, h⟩ := Option.bind_eq_some_iff.1 h
        obtain ⟨c', h2, h⟩ := Option.bind_eq_some_iff.1 h
        split at h
        · rename_i hc; exact ⟨h0.1, h0.2, liveX_n h3, bndX_ok h1 (bndX_ok h2 ⟨hc.1, hc.2.1, hc.2.2, inj h hk⟩)⟩
        · cases h
      · cases h
    · cases h
  | fldA off x =>
    simp only [opX, opW] at h ⊢
    generalize ev x = gx at h ⊢
    split at h
    · exact inj h hk
    · obtain ⟨es, h1, h2⟩ := Option.map_eq_some_iff.1 h
      exact ⟨liveX_n h1, inj (congrArg some h2) hk⟩
    · cases h
  | fld off sz agg x =>
    simp only [opX, opW] at h ⊢
    generalize ev x = gx at h ⊢
    split at h
    · split at h
      · split at h
        · rename_i hc; exact ⟨hc, inj h hk⟩
        · cases h
      · obtain ⟨x, h1, h2⟩ := Option.map_eq_some_iff.1 h
        exact ⟨get_lt h1, get_all h1 (inj (congrArg some h2) hk)⟩
    · cases h
  | idxA sz arr x i =>
    simp only [opX, opW] at h ⊢
    generalize ev x = gx at h ⊢
    obtain ⟨j, h0, h⟩ := Option.bind_eq_some_iff.1 h
    refine intX_ok h0 ?_
    split at h
    · split at h
      · rename_i hc
        obtain ⟨e, h1, h2⟩ := Option.map_eq_some_iff.1 h
        have := get_lt h1
        exact ⟨hc.1, hc.2, by omega, get_all h1 (inj (congrArg some h2) hk)⟩
      · cases h
    · split at h
      · rename_i hc
        obtain ⟨e, h1, h2⟩ := Option.map_eq_some_iff.1 h
        exact ⟨hc.1, liveX_n h1, hc.2.1, hc.2.2, inj (congrArg some h2) hk⟩
      · cases h
    · split at h
      · rename_i hc; exact ⟨hc.1, hc.2, inj h hk⟩
      · cases h
    · split at h
      · rename_i hc
        obtain ⟨e, h1, h2⟩ := Option.map_eq_some_iff.1 h
        exact ⟨liveX_n h1, hc.1, hc.2, inj (congrArg some h2) hk⟩
      · cases h
    · cases h
  | idx sz n agg x i =>
    simp only [opX, opW] at h ⊢
    generalize ev x = gx at h ⊢
    obtain ⟨j, h0, h⟩ := Option.bind_eq_some_iff.1 h
    refine intX_ok h0 ?_
    split at h
    · split at h
      · rename_i hc
        refine ⟨hc.1, hc.2.1, hc.2.2, ?_⟩
        split at h
        · exact inj h hk
        · split at h
          · rename_i hs
            obtain ⟨e, h1, h2⟩ := Option.map_eq_some_iff.1 h
            exact ⟨hs, get_all h1 (inj (congrArg some h2) hk)⟩
          · cases h
      · cases h
    · cases h
  | idxS x i =>
    simp only [opX, opW] at h ⊢
    generalize ev x = gx at h ⊢
    obtain ⟨j, h0, h⟩ := Option.bind_eq_some_iff.1 h
    refine intX_ok h0 ?_
    split at h
    · split at h
      · rename_i hc
        obtain ⟨e, h1, h2⟩ := Option.map_eq_some_iff.1 h
        have := get_lt h1
        exact ⟨hc, by omega, get_all h1 (inj (congrArg some h2) hk)⟩
      · cases h
    · cases h
  | ext x i =>
    simp only [opX, opW] at h ⊢
    generalize ev x = gx at h ⊢
    split at h
    · obtain ⟨e, h1, h2⟩ := Option.map_eq_some_iff.1 h
      exact ⟨get_lt h1, get_all h1 (inj (congrArg some h2) hk)⟩
    · cases h
  | mkfn f a b => exact inj h hk
  | len str x =>
    simp only [opX, opW] at h ⊢
    generalize ev x = gx at h ⊢
    split at h
    · exact inj h hk
    · exact inj h hk
    · exact inj h hk
    · obtain ⟨e, h1, h2⟩ := Option.map_eq_some_iff.1 h
      exact ⟨liveX_n h1, inj (congrArg some h2) hk⟩
    · cases h
  | append sz bytes s x =>
    simp only [opX, opW] at h ⊢
    generalize ev s = gs at h ⊢
    obtain ⟨xs, h0, h⟩ := Option.bind_eq_some_iff.1 h
    refine elemsX_ok h0 ?_
    split at h
    · split at h
      · rename_i hc; exact ⟨hc, inj h hk⟩
      · cases h
    · split at h
      · rename_i hc
        obtain ⟨e, h1, h2⟩ := Option.map_eq_some_iff.1 h
        exact ⟨hc.1, hc.2.1, hc.2.2.1, liveX_n h1, hc.2.2.2, liveX_all h1 (inj (congrArg some h2) hk)⟩
      · cases h
    · cases h
  | copy sz d s =>
    simp only [opX, opW] at h ⊢
    generalize ev d = gd at h ⊢
    obtain ⟨xs, h0, h⟩ := Option.bind_eq_some_iff.1 h
    refine elemsX_ok h0 ?_
    split at h
    · exact inj h hk
    · split at h
      · rename_i hc
        obtain ⟨e, h1, h2⟩ := Option.map_eq_some_iff.1 h
        exact ⟨hc, liveX_n h1, liveX_all h1 (inj (congrArg some h2) hk)⟩
      · cases h
    · cases h
  | clr sz z x =>
    simp only [opX, opW] at h ⊢
    generalize ev x = gx at h ⊢
    split at h
    · split at h
      · rename_i hc
        obtain ⟨e, h1, h2⟩ := Option.map_eq_some_iff.1 h
        exact ⟨hc.1, liveX_n h1, hc.2, liveX_all h1 (inj (congrArg some h2) hk)⟩
      · cases h
    · cases h
  | mn x y =>
    simp only [opX, opW] at h ⊢
    generalize ev x = gx at h ⊢
    generalize ev y = gy at h ⊢
    split at h
    · exact inj h hk
    · cases h
  | mx x y =>
    simp only [opX, opW] at h ⊢
    generalize ev x = gx at h ⊢
    generalize ev y = gy at h ⊢
    split at h
    · exact inj h hk
    · cases h
  | bad => cases h
  | idxB x y =>
    simp only [opX, opW] at h ⊢
    generalize ev x = gx at h ⊢
    generalize ev y = gy at h ⊢
    split at h
    · exact inj h hk
    · cases h
  | rng x =>
    simp only [opX, opW] at h ⊢
    generalize ev x = gx at h ⊢
    split at h
    · exact inj h hk
    · cases h
  | nxt x =>
    simp only [opX, opW] at h ⊢
    generalize ev x = gx at h ⊢
    split at h
    · split at h
      · rename_i h1
        simp only [nxtW, h1]
        split at h
        · rename_i hp; exact ⟨fun _ => inj h hk, fun hn => absurd hp hn⟩
        · rename_i hp; exact ⟨fun hn => absurd hn hp, fun _ => inj h hk⟩
      · cases h
    · cases h
  | mkmap => exact inj h hk
  | lkp ok z m k =>
    simp only [opX, opW] at h ⊢
    generalize ev m = gm at h ⊢
    generalize ev k = gk at h ⊢
    split at h
    · split at h
      · rename_i hz
        split at h
        · rename_i h1
          simp only [lkpW, h1]
          exact ⟨hz, inj h hk⟩
        · cases h
      · cases h
    · cases h
  | upd m k v =>
    simp only [opX, opW] at h ⊢
    generalize ev m = gm at h ⊢
    generalize ev k = gk at h ⊢
    generalize ev v = gv at h ⊢
    split at h
    · split at h
      · rename_i hz
        split at h
        · rename_i h1
          simp only [updW, h1]
          exact ⟨hz, inj h hk⟩
        · cases h
      · cases h
    · cases h

end
end Go.Vx

namespace Go.Vx

def mapO {α β : Type} (f : α → Option β) : List α → Option (List β)
  | [] => some []
  | x :: l => (f x).bind fun y => (mapO f l).map (y :: ·)

def isUn : Option RowS → Bool
  | some .un => true
  | _ => false

def snapCOkX (rows : Rows) : V → Bool
  | .osl sz h n off len => decide (off + len ≤ n) && (match liveX rows h sz n with | some es => es.all (fun e => e.all isD) | none => false)
  | .optr sz h n i off => match liveX rows h sz n with
    | some es => match es[i]? with
      | some e => decide (off ≤ e.length) && e.all isD
      | none => false
    | none => false
  | v => noH v
def snapOkX (rows : Rows) : V → Bool
  | .agg cs => cs.all (snapCOkX rows)
  | .fn _ a b => a.all (snapCOkX rows) && b.all (snapCOkX rows)
  | v => snapCOkX rows v

def callX (call : FuncId → List V → Option V) (f : FuncId) (vals : List V) (rows : Rows) : ResX :=
  if vals.all noH = true then (call f vals).map fun v => (v, [])
  else if vals.all (snapOkX rows) = true then (call f (vals.map (snapV rows))).map fun v => if scal v = true then (v, []) else (v, kills vals)
  else none

def actX (call : FuncId → List V → Option V) (base : Nat) (s : AStm) (S : St) : ResX :=
  match s.act with
  | .op o => if o.makes = true ∧ isUn S.rows[base + s.hi]? = false then none else opX o (Opd.ev S.fr) S.rows (base + s.hi)
  | .call f args =>
    match f.ev S.fr with
    | .fn (.func f) first cap => callX call f (first ++ args.map (Opd.ev S.fr) ++ cap) S.rows
    | _ => none

def stmX (call : FuncId → List V → Option V) (base : Nat) (s : AStm) (S : St) : ResX :=
  match s.guard with
  | none => actX call base s S
  | some (t, want) =>
    match nth S.fr t with
    | .d (.bool b) => if b = want then actX call base s S else some (.tup [], [])
    | .tup [] => some (.tup [], [])
    | _ => none

def runX (call : FuncId → List V → Option V) (base : Nat) : List AStm → St → Option St
  | [], S => some S
  | s :: l, S =>
    match stmX call base s S with
    | some (v, u) => runX call base l (S.after s v u)
    | none => none

def runDX (call : FuncId → List V → Option V) (base : Nat) : List (AStm × List Nat) → List (List Nat × List Nat) → St → Option St
  | [], _, S => some S
  | (s, pre) :: l, acc, S =>
    match stmX call base s S with
    | some (v, u) => if compat acc pre (s.foot base S.fr) (u.map (·.1)) = true ∧ (u.map (·.1)).all (s.foot base S.fr).contains = true then
        runDX call base l (acc ++ [(s.foot base S.fr, u.map (·.1))]) (S.after s v u) else none
    | none => none

def loopX (body : St → Option (AX × St)) : Nat → St → Option (AX × St)
  | 0, _ => none
  | n + 1, S =>
    match body S with
    | some (.normal, S') => loopX body n S'
    | some (.exit i, S') => some (.exit i, S')
    | some (.ret, S') => some (.ret, S')
    | none => none

def evX (call : FuncId → List V → Option V) (n : Nat) : AC → St → Option (AX × St)
  | .skip, S => some (.normal, S)
  | .reg m l, S => (runX call S.rows.length l (S.grow m)).map fun S => (.normal, S)
  | .regD m l, S => (runDX call S.rows.length l [] (S.grow m)).map fun S => (.normal, S)
  | .seq a b, S =>
    match evX call n a S with
    | some (.normal, S') => evX call n b S'
    | some (.exit i, S') => some (.exit i, S')
    | some (.ret, S') => some (.ret, S')
    | none => none
  | .cond c a b, S =>
    match c.ev S.fr with
    | .d (.bool true) => evX call n a S
    | .d (.bool false) => evX call n b S
    | _ => none
  | .block id a, S =>
    match evX call n a S with
    | some (.normal, S') => some (.normal, S')
    | some (.exit i, S') => if i = id then some (.normal, S') else some (.exit i, S')
    | some (.ret, S') => some (.ret, S')
    | none => none
  | .loop a, S => loopX (evX call n a) n S
  | .exit id, S => some (.exit id, S)
  | .ret, S => some (.ret, S)
  | .wk _, _ => none
  | .cut _ _, _ => none
  | .regX _ _ _, _ => none
  | .rng _ _ _ _, _ => none
  | .scope a, S => evX call n a S
  | .label, S => some (.normal, S)

def retX : List RS → St → Option (List V)
  | [], _ => some []
  | .tmp t :: l, S => (retX l S).map (nth S.fr t :: ·)
  | .cell a agg sz :: l, S => (opX (.load agg sz (.t a)) (Opd.ev S.fr) S.rows 0).bind fun r => (retX l S).map (r.1 :: ·)

def snapX (rows : Rows) : Nat → V → Option D
  | 0, _ => none
  | _ + 1, .d x => some x
  | n + 1, .osl sz h m off len => (liveX rows h sz m).bind fun es => if off + len ≤ m then
      (mapO (fun e => if e.length = sz then mapO (snapX rows n) e else none) ((es.drop off).take len)).map fun xs => .sl sz xs else none
  | n + 1, .optr sz h m i off => (liveX rows h sz m).bind fun es => es[i]?.bind fun e => if off ≤ sz ∧ e.length = sz then (mapO (snapX rows n) (e.drop off)).map fun cs => .ptr cs else none
  | _ + 1, _ => none
def snapBX (rows : Rows) (n : Nat) : V → Option V
  | .agg cs => (mapO (snapX rows n) cs).map fun ds => .agg (ds.map .d)
  | v => (snapX rows n v).map .d
def snapAX (rows : Rows) (n : Nat) : V → Option V
  | .fn f a b => (mapO (snapBX rows n) a).bind fun a' => (mapO (snapBX rows n) b).map fun b' => .fn f a' b'
  | v => snapBX rows n v
def snapVX (rows : Rows) (n : Nat) : V → Option V
  | .tup cs => (mapO (snapAX rows n) cs).map .tup
  | v => snapAX rows n v

abbrev Tab := FuncId → Option (AC × Nat × List RS)

def fnX (tab : Tab) (pre : FuncId → List V → Option V) (n : Nat) : Nat → FuncId → List V → Option V
  | 0, _, _ => none
  | k + 1, f, vals =>
    match pre f vals with
    | some v => some v
    | none =>
      match tab f with
      | some (ac, nt, rs) =>
        match evX (fnX tab pre n k) n ac ⟨vals ++ List.replicate (nt - vals.length) (.tup []), []⟩ with
        | some (.normal, S) => (retX rs S).bind fun vs => snapVX S.rows 8 (tupOf vs)
        | some (.ret, S) => (retX rs S).bind fun vs => snapVX S.rows 8 (tupOf vs)
        | _ => none
      | none => none

theorem mapO_len {α β : Type} {f : α → Option β} : ∀ {l : List α} {r : List β}, mapO f l = some r → r.length = l.length := by
  intro l
  induction l with
  | nil => intro r h; injection h with h; subst h; rfl
  | cons x l ih =>
    intro r h
    simp only [mapO] at h
    obtain ⟨y, _, h⟩ := Option.bind_eq_some_iff.1 h
    obtain ⟨ys, h2, rfl⟩ := Option.map_eq_some_iff.1 h
    simp [ih h2]
theorem mapO_get {α β : Type} {f : α → Option β} : ∀ {l : List α} {r : List β}, mapO f l = some r → ∀ {i : Nat} {x : α} {y : β}, l[i]? = some x → r[i]? = some y → f x = some y := by
  intro l
  induction l with
  | nil => intro r _ i x y hx; simp at hx
  | cons x l ih =>
    intro r h i a b ha hb
    simp only [mapO] at h
    obtain ⟨y, h1, h⟩ := Option.bind_eq_some_iff.1 h
    obtain ⟨ys, h2, rfl⟩ := Option.map_eq_some_iff.1 h
    cases i with
    | zero => simp at ha hb; subst ha hb; exact h1
    | succ i => exact ih h2 (by simpa using ha) (by simpa using hb)

theorem snapX_ok {rows : Rows} : ∀ (n : Nat) (v : V) {x : D}, snapX rows n v = some x → Snap rows v (.d x) := by
  intro n
  induction n with
  | zero => intro v x h; simp [snapX] at h
  | succ n ih =>
    intro v x h
    cases v with
    | d y => simp only [snapX] at h; injection h with h; subst h; exact .d _
    | osl sz g m off len =>
      simp only [snapX] at h
      obtain ⟨es, h1, h⟩ := Option.bind_eq_some_iff.1 h
      split at h
      · rename_i hc
        obtain ⟨xs, h2, rfl⟩ := Option.map_eq_some_iff.1 h
        have hl := liveX_ok h1
        have hlen := mapO_len h2
        have hget := @mapO_get _ _ _ _ _ h2
        have hxl : xs.length = len := by simp at hlen; omega
        refine .osl sz g m off len es xs hl.1 hl.2 hc hxl (fun x hx => ?_) (fun i j e x v y he hx hv hy => ?_)
        · obtain ⟨i, hi, rfl⟩ := List.getElem_of_mem hx
          have h3 : ((es.drop off).take len)[i]? = some (((es.drop off).take len)[i]'(by omega)) := List.getElem?_eq_getElem (by omega)
          have h4 := hget h3 (List.getElem?_eq_getElem hi)
          split at h4
          · rename_i hz
            rw [mapO_len h4, hz]
          · cases h4
        · have hi : i < len := by have := (List.getElem?_eq_some_iff.1 hx).1; omega
          have h3 : ((es.drop off).take len)[i]? = some e := by
            rw [List.getElem?_take, if_pos hi, List.getElem?_drop]; exact he
          have h4 := hget h3 hx
          split at h4
          · exact ih _ (mapO_get h4 hv hy)
          · cases h4
      · cases h
    | optr sz g m i off =>
      simp only [snapX] at h
      obtain ⟨es, h1, h⟩ := Option.bind_eq_some_iff.1 h
      obtain ⟨e, h2, h⟩ := Option.bind_eq_some_iff.1 h
      split at h
      · rename_i hc
        obtain ⟨cs, h3, rfl⟩ := Option.map_eq_some_iff.1 h
        have hl := liveX_ok h1
        have hlen := mapO_len h3
        simp at hlen
        refine .optr sz g m i off es e cs hl.1 hl.2 h2 (by omega) (fun j v y hv hy => ?_)
        exact ih _ (mapO_get h3 (by rw [List.getElem?_drop]; exact hv) hy)
      · cases h
    | _ => simp [snapX] at h

theorem map_d_get {ds : List D} {j : Nat} {v' : V} (h : (ds.map V.d)[j]? = some v') : ∃ y, ds[j]? = some y ∧ v' = .d y := by
  simp only [List.getElem?_map] at h
  obtain ⟨y, h1, rfl⟩ := Option.map_eq_some_iff.1 h
  exact ⟨y, h1, rfl⟩

theorem snapBX_ok {rows : Rows} {n : Nat} {v v' : V} (h : snapBX rows n v = some v') : Snap rows v v' := by
  cases v with
  | agg cs =>
    simp only [snapBX] at h
    obtain ⟨ds, h1, rfl⟩ := Option.map_eq_some_iff.1 h
    refine .agg cs _ (by simp [mapO_len h1]) fun j v v' hv hv' => ?_
    obtain ⟨y, hy, rfl⟩ := map_d_get hv'
    exact snapX_ok _ _ (mapO_get h1 hv hy)
  | _ => obtain ⟨y, h1, rfl⟩ := Option.map_eq_some_iff.1 h; exact snapX_ok _ _ h1

theorem snapAX_ok {rows : Rows} {n : Nat} {v v' : V} (h : snapAX rows n v = some v') : Snap rows v v' := by
  cases v with
  | fn f a b =>
    simp only [snapAX] at h
    obtain ⟨a', h1, h⟩ := Option.bind_eq_some_iff.1 h
    obtain ⟨b', h2, rfl⟩ := Option.map_eq_some_iff.1 h
    exact .fn f a b _ _ (mapO_len h1).symm (mapO_len h2).symm (fun j v v' hv hv' => snapBX_ok (mapO_get h1 hv hv')) (fun j v v' hv hv' => snapBX_ok (mapO_get h2 hv hv'))
  | _ => exact snapBX_ok h

theorem snapVX_ok {rows : Rows} {n : Nat} {v v' : V} (h : snapVX rows n v = some v') : Snap rows v v' := by
  cases v with
  | tup cs =>
    simp only [snapVX] at h
    obtain ⟨ds, h1, rfl⟩ := Option.map_eq_some_iff.1 h
    exact .tup cs _ (mapO_len h1).symm fun j v v' hv hv' => snapAX_ok (mapO_get h1 hv hv')
  | _ => exact snapAX_ok h

theorem retX_ok : ∀ (l : List RS) {S : St} {vs : List V}, retX l S = some vs → ∀ {K : List V → Prop}, K vs → retW l S K
  | [], S, vs, h, K, hk => by injection h with h; subst h; exact hk
  | .tmp t :: l, S, vs, h, K, hk => by
    simp only [retX] at h
    obtain ⟨vs', h1, rfl⟩ := Option.map_eq_some_iff.1 h
    exact retX_ok l (K := fun vs => K (nth S.fr t :: vs)) h1 hk
  | .cell a agg sz :: l, S, vs, h, K, hk => by
    simp only [retX] at h
    obtain ⟨⟨v, u⟩, h0, h⟩ := Option.bind_eq_some_iff.1 h
    obtain ⟨vs', h1, rfl⟩ := Option.map_eq_some_iff.1 h
    simp only [retW]
    exact opX_ok h0 (retX_ok l (K := fun vs => K (v :: vs)) h1 hk)

section
variable {P : Program} {call : FuncId → List V → Option V} (hcall : ∀ f vals v, call f vals = some v → CallP P f vals v)

theorem snapCOkX_ok {rows : Rows} {v : V} (h : snapCOkX rows v = true) : snapCOk rows v := by
  cases v with
  | osl sz g n off len =>
    simp only [snapCOkX, Bool.and_eq_true, decide_eq_true_eq] at h
    obtain ⟨h1, h2⟩ := h
    split at h2
    · rename_i es he
      refine ⟨h1, es, (liveX_ok he).1, (liveX_ok he).2, fun e hm v hv => ?_⟩
      exact List.all_eq_true.1 (List.all_eq_true.1 h2 e hm) v hv
    · cases h2
  | optr sz g n i off =>
    simp only [snapCOkX] at h
    split at h
    · rename_i es he
      split at h
      · rename_i e hie
        simp only [Bool.and_eq_true, decide_eq_true_eq] at h
        exact ⟨es, e, (liveX_ok he).1, (liveX_ok he).2, hie, h.1, fun v hv => List.all_eq_true.1 h.2 v hv⟩
      · cases h
    · cases h
  | _ => exact h
theorem snapOkX_ok {rows : Rows} {v : V} (h : snapOkX rows v = true) : snapOk rows v := by
  cases v with
  | agg cs => exact fun v hv => snapCOkX_ok (List.all_eq_true.1 h v hv)
  | fn f a b =>
    simp only [snapOkX, Bool.and_eq_true, List.all_eq_true] at h
    exact ⟨fun v hv => snapCOkX_ok (h.1 v hv), fun v hv => snapCOkX_ok (h.2 v hv)⟩
  | osl a b c d e => exact snapCOkX_ok (v := .osl a b c d e) h
  | optr a b c d e => exact snapCOkX_ok (v := .optr a b c d e) h
  | any => exact snapCOkX_ok (rows := rows) (v := .any) h
  | d x => exact snapCOkX_ok (rows := rows) (v := .d x) h
  | tup a => exact snapCOkX_ok (rows := rows) (v := .tup a) h

include hcall

theorem callX_ok {f : FuncId} {vals : List V} {rows : Rows} {v : V} {u : List (Nat × RowS)} (h : callX call f vals rows = some (v, u)) : CallX P f vals rows v u := by
  unfold callX at h
  split at h
  · rename_i hn
    obtain ⟨v', h1, h2⟩ := Option.map_eq_some_iff.1 h
    injection h2 with h2 h3; subst h2 h3
    exact .inl ⟨.inl ⟨fun x hx => List.all_eq_true.1 hn x hx, hcall _ _ _ h1⟩, rfl⟩
  · split at h
    · rename_i hs
      have hs' : ∀ x ∈ vals, snapOk rows x := fun x hx => snapOkX_ok (List.all_eq_true.1 hs x hx)
      obtain ⟨v', h1, h2⟩ := Option.map_eq_some_iff.1 h
      split at h2
      · rename_i hsc
        injection h2 with h2 h3; subst h2 h3
        exact .inl ⟨.inr ⟨hs', hsc, hcall _ _ _ h1⟩, rfl⟩
      · injection h2 with h2 h3; subst h2 h3
        exact .inr (.inl ⟨⟨hs', hcall _ _ _ h1⟩, rfl⟩)
    · cases h

theorem actX_ok {base : Nat} {s : AStm} {S : St} {v : V} {u : List (Nat × RowS)} (h : actX call base s S = some (v, u)) {K : V → List (Nat × RowS) → Prop} (hk : K v u) : actW P base s S K := by
  unfold actX at h; unfold actW
  generalize s.act = ac at h ⊢
  split at h
  · rename_i o
    split at h
    · cases h
    · rename_i hc
      refine ⟨fun hm => ?_, opX_ok h hk⟩
      cases hu : isUn S.rows[base + s.hi]? with
      | false => exact absurd ⟨hm, hu⟩ hc
      | true =>
        unfold isUn at hu
        split at hu
        · assumption
        · cases hu
  · rename_i f args
    simp only [callW]
    generalize f.ev S.fr = fv at h ⊢
    split at h
    · rename_i n first cap e
      exact ⟨v, u, callX_ok hcall h, hk⟩
    · cases h

theorem stmX_ok {base : Nat} {s : AStm} {S : St} {v : V} {u : List (Nat × RowS)} (h : stmX call base s S = some (v, u)) {K : V → List (Nat × RowS) → Prop} (hk : K v u) : stmU P base s S K := by
  unfold stmX at h; unfold stmU
  generalize s.guard = gd at h ⊢
  split at h
  · exact actX_ok hcall h hk
  · rename_i t want
    dsimp only
    generalize nth S.fr t = g at h ⊢
    split at h
    · rename_i b
      split at h
      · rename_i hb; exact ⟨fun _ => actX_ok hcall h hk, fun hn => absurd hb hn⟩
      · rename_i hb
        injection h with h; injection h with h1 h2; subst h1 h2
        exact ⟨fun hn => absurd hn hb, fun _ => hk⟩
    · injection h with h; injection h with h1 h2; subst h1 h2
      exact hk
    · cases h

theorem runX_ok {base : Nat} : ∀ (l : List AStm) {S S' : St}, runX call base l S = some S' → ∀ {K : St → Prop}, K S' → runW P base l K S
  | [], S, S', h, K, hk => by injection h with h; subst h; exact hk
  | s :: l, S, S', h, K, hk => by
    simp only [runX] at h
    split at h
    · rename_i v u he
      exact stmX_ok hcall he (runX_ok l h hk)
    · cases h

theorem runDX_ok {base : Nat} : ∀ (l : List (AStm × List Nat)) (acc : List (List Nat × List Nat)) {S S' : St}, runDX call base l acc S = some S' → ∀ {K : St → Prop}, K S' → runD P base l acc K S
  | [], _, S, S', h, K, hk => by injection h with h; subst h; exact hk
  | (s, pre) :: l, acc, S, S', h, K, hk => by
    simp only [runDX] at h
    split at h
    · rename_i v u he
      split at h
      · rename_i hc
        exact stmX_ok hcall he ⟨hc.1, hc.2, runDX_ok l _ h hk⟩
      · cases h
    · cases h

theorem evX_ok {b0 n : Nat} : ∀ (a : AC) {S S' : St} {e : AX}, evX call n a S = some (e, S') → ∀ {Q : AX → St → Prop}, Q e S' → wpC P b0 a Q S
  | .skip, S, S', e, h, Q, hq => by injection h with h; injection h with h1 h2; subst h1 h2; exact hq
  | .reg m l, S, S', e, h, Q, hq => by
    simp only [evX] at h
    obtain ⟨S1, h1, h2⟩ := Option.map_eq_some_iff.1 h
    injection h2 with h2 h3; subst h2 h3
    exact runX_ok hcall l h1 hq
  | .regD m l, S, S', e, h, Q, hq => by
    simp only [evX] at h
    obtain ⟨S1, h1, h2⟩ := Option.map_eq_some_iff.1 h
    injection h2 with h2 h3; subst h2 h3
    exact runDX_ok hcall l _ h1 hq
  | .seq a b, S, S', e, h, Q, hq => by
    simp only [evX] at h
    unfold wpC
    split at h
    · rename_i S1 h1
      exact evX_ok a h1 (evX_ok b h hq)
    · rename_i i S1 h1
      injection h with h; injection h with h2 h3; subst h2 h3
      exact evX_ok a h1 hq
    · rename_i S1 h1
      injection h with h; injection h with h2 h3; subst h2 h3
      exact evX_ok a h1 hq
    · cases h
  | .cond c a b, S, S', e, h, Q, hq => by
    simp only [evX] at h
    unfold wpC condW
    generalize c.ev S.fr = g at h ⊢
    split at h
    · exact ⟨fun _ => evX_ok a h hq, fun hh => (by cases hh)⟩
    · exact ⟨fun hh => (by cases hh), fun _ => evX_ok b h hq⟩
    · cases h
  | .block id a, S, S', e, h, Q, hq => by
    simp only [evX] at h
    unfold wpC
    split at h
    · rename_i S1 h1
      injection h with h; injection h with h2 h3; subst h2 h3
      exact evX_ok a h1 hq
    · rename_i i S1 h1
      split at h
      · rename_i hi
        injection h with h; injection h with h2 h3; subst h2 h3
        exact evX_ok a h1 (by simpa [hi] using hq)
      · rename_i hi
        injection h with h; injection h with h2 h3; subst h2 h3
        exact evX_ok a h1 (by simpa [hi] using hq)
    · rename_i S1 h1
      injection h with h; injection h with h2 h3; subst h2 h3
      exact evX_ok a h1 hq
    · cases h
  | .loop a, S, S', e, h, Q, hq => by
    simp only [evX] at h
    unfold wpC
    refine ⟨fun m S1 => ∃ e1 S2, loopX (evX call n a) m S1 = some (e1, S2) ∧ Q e1 S2, n, S, fun _ _ _ _ hs => hs, ⟨e, S', h, hq⟩, ?_⟩
    rintro m S1 ⟨e1, S2, h1, hq1⟩
    cases m with
    | zero => simp [loopX] at h1
    | succ m =>
      simp only [loopX] at h1
      split at h1
      · rename_i S3 h3
        exact evX_ok a h3 ⟨m, S3, Nat.lt_succ_self m, fun _ _ _ _ hs => hs, e1, S2, h1, hq1⟩
      · rename_i i S3 h3
        injection h1 with h1; injection h1 with h2 h4; subst h2 h4
        exact evX_ok a h3 hq1
      · rename_i S3 h3
        injection h1 with h1; injection h1 with h2 h4; subst h2 h4
        exact evX_ok a h3 hq1
      · cases h1
  | .wk _, S, S', e, h, Q, hq => by simp [evX] at h
  | .cut _ _, S, S', e, h, Q, hq => by simp [evX] at h
  | .regX _ _ _, S, S', e, h, Q, hq => by simp [evX] at h
  | .rng _ _ _ _, S, S', e, h, Q, hq => by simp [evX] at h
  | .scope a, S, S', e, h, Q, hq => by
    simp only [evX] at h
    unfold wpC
    exact evX_ok a h hq
  | .label, S, S', e, h, Q, hq => by
    simp only [evX] at h
    injection h with h; injection h with h1 h2; subst h1 h2
    exact hq
  | .exit id, S, S', e, h, Q, hq => by injection h with h; injection h with h1 h2; subst h1 h2; exact hq
  | .ret, S, S', e, h, Q, hq => by injection h with h; injection h with h1 h2; subst h1 h2; exact hq

end

/-- The code that is said of the functions is theirs. -/
def TabOk (P : Program) (tab : Tab) : Prop :=
  ∀ f ac nt rs, tab f = some (ac, nt, rs) → ∀ vals v, wpC P 0 ac (retQ rs v) ⟨vals ++ List.replicate (nt - vals.length) (.tup []), []⟩ → CallP P f vals v

theorem fnX_ok {P : Program} {tab : Tab} (htab : TabOk P tab) {pre : FuncId → List V → Option V} (hpre : ∀ f vals v, pre f vals = some v → CallP P f vals v) (n : Nat) :
    ∀ (k : Nat) (f : FuncId) (vals : List V) (v : V), fnX tab pre n k f vals = some v → CallP P f vals v := by
  intro k
  induction k with
  | zero => intro f vals v h; simp [fnX] at h
  | succ k ih =>
    intro f vals v h
    simp only [fnX] at h
    split at h
    · rename_i v' h1
      injection h with h; subst h
      exact hpre _ _ _ h1
    · split at h
      · rename_i ac nt rs h1
        split at h
        · rename_i S h2
          obtain ⟨vs, h3, h4⟩ := Option.bind_eq_some_iff.1 h
          exact htab _ _ _ _ h1 vals v (evX_ok ih ac h2 (retX_ok rs h3 (snapVX_ok h4)))
        · rename_i S h2
          obtain ⟨vs, h3, h4⟩ := Option.bind_eq_some_iff.1 h
          exact htab _ _ _ _ h1 vals v (evX_ok ih ac h2 (retX_ok rs h3 (snapVX_ok h4)))
        · cases h
      · cases h

def noPre : FuncId → List V → Option V := fun _ _ => none
theorem noPre_ok {P : Program} : ∀ f vals v, noPre f vals = some v → CallP P f vals v := fun _ _ _ h => by cases h

/-- a table as a list -/
def tabOf : List (FuncId × AC × Nat × List RS) → Tab
  | [], _ => none
  | (g, x) :: l, f => if f = g then some x else tabOf l f

def RowOk (P : Program) (f : FuncId) (ac : AC) (nt : Nat) (rs : List RS) : Prop :=
  ∀ vals v, wpC P 0 ac (retQ rs v) ⟨vals ++ List.replicate (nt - vals.length) (.tup []), []⟩ → CallP P f vals v

theorem tabOf_nil {P : Program} : TabOk P (tabOf []) := fun _ _ _ _ h => by cases h
theorem tabOf_cons {P : Program} {f : FuncId} {ac : AC} {nt : Nat} {rs : List RS} {l : List (FuncId × AC × Nat × List RS)} (h : RowOk P f ac nt rs) (hl : TabOk P (tabOf l)) : TabOk P (tabOf ((f, ac, nt, rs) :: l)) := by
  intro g ac' nt' rs' hg
  simp only [tabOf] at hg
  split at hg
  · rename_i e
    injection hg with hg; injection hg with h1 h2; injection h2 with h2 h3
    subst e h1 h2 h3
    exact h
  · exact hl _ _ _ _ hg

end Go.Vx
