import Derived.Test.YtkbjfoodikoppaaDoorVxCore
import Derived.Laws.RangeString
import Derived.Laws.RangeAny
import Derived.Lib.Bytealg
set_option linter.unusedSectionVars false
set_option linter.unusedSimpArgs false
set_option linter.unusedVariables false
namespace Go.Vx

inductive Opd where
  | t (i : Nat)
  | k (v : V)
  deriving Inhabited

def nth : List V → Nat → V
  | [], _ => .any
  | x :: _, 0 => x
  | _ :: l, n + 1 => nth l n

def setN : List V → Nat → V → List V
  | [], _, _ => []
  | _ :: l, 0, v => v :: l
  | x :: l, n + 1, v => x :: setN l n v

def Opd.ev (fr : List V) : Opd → V
  | .t i => nth fr i
  | .k v => v

inductive AOp where
  | mov (x : Opd)
  | pick (c a b : Opd)
  | nilck (x : Opd)
  | bin (op : BinOp) (x y : Opd)
  | eqB (neg : Bool) (x y : Opd)
  | eqS (neg : Bool) (ks : List Nat) (x y : Opd)
  | isNil (neg : Bool) (x y : Opd)
  | un (op : UnOp) (x : Opd)
  | conv (k : IntKind) (x : Opd)
  | same (x : Opd)
  | s2b (x : Opd)
  | b2s (x : Opd)
  | alloc (zero : List D)
  | box (sz : Nat) (x : Opd)
  | build (zero : List D) (parts : List (Nat × Nat × Opd))
  | buildSl (sz len : Nat) (zero : List D) (parts : List (Nat × Opd))
  | load (agg : Bool) (sz : Nat) (a : Opd)
  | store (sz : Nat) (a x : Opd)
  | mksl (sz bytes : Nat) (zero : List D) (l c : Opd)
  | slice (sz : Nat) (x : Opd) (lo hi : Option Opd)
  | fldA (off : Nat) (x : Opd)
  | fld (off sz : Nat) (agg : Bool) (x : Opd)
  | idxA (sz : Nat) (arr : Option Nat) (x i : Opd)
  | idx (sz n : Nat) (agg : Bool) (x i : Opd)
  | idxS (x i : Opd)
  | ext (x : Opd) (i : Nat)
  | mkfn (f : Fn) (first cap : List Opd)
  | len (str : Bool) (x : Opd)
  | append (sz bytes : Nat) (s x : Opd)
  | copy (sz : Nat) (d s : Opd)
  | clr (sz : Nat) (zero : List D) (x : Opd)
  | mn (x y : Opd)
  | mx (x y : Opd)
  | bad
  | rng (x : Opd)
  | nxt (x : Opd)
  | mkmap
  | lkp (ok : Bool) (z : D) (m k : Opd)
  | upd (m k v : Opd)
  | idxB (x y : Opd)
  deriving Inhabited

/-- The rune of a string at a place, and its width. -/
def runeAt (s : List UInt8) (pos : Nat) : Nat × Nat := Utf8.decode ⟨s.toArray⟩ pos

def mpGet (z : D) : List (List UInt8 × D) → List UInt8 → D
  | [], _ => z
  | p :: l, s => if p.1 = s then p.2 else mpGet z l s
def mpHas : List (List UInt8 × D) → List UInt8 → Bool
  | [], _ => false
  | p :: l, s => if p.1 = s then true else mpHas l s
def mpPut : List (List UInt8 × D) → List UInt8 → D → List (List UInt8 × D)
  | [], s, x => [(s, x)]
  | p :: l, s, x => if p.1 = s then (s, x) :: l else p :: mpPut l s x

def nxtW (h : Nat) (r : Option RowS) (K : V → List (Nat × RowS) → Prop) : Prop :=
  match r with
  | some (.obj (.it s pos)) =>
    (pos < s.length → K (.tup [.d (.bool true), .d (.int .i64 pos), .d (.int .i32 (runeAt s pos).1)]) [(h, .obj (.it s (pos + (runeAt s pos).2)))]) ∧
    (¬ pos < s.length → K (.tup [.d (.bool false)]) [])
  | _ => False
def lkpW (ok : Bool) (z : D) (r : Option RowS) (s : List UInt8) (K : V → List (Nat × RowS) → Prop) : Prop :=
  match r with
  | some (.obj (.mp es)) => K (if ok then .tup [.d (mpGet z es s), .d (.bool (mpHas es s))] else .d (mpGet z es s)) []
  | _ => False
def updW (h : Nat) (r : Option RowS) (s : List UInt8) (x : D) (K : V → List (Nat × RowS) → Prop) : Prop :=
  match r with
  | some (.obj (.mp es)) => K .any [(h, .obj (.mp (mpPut es s x)))]
  | _ => False

/-- The row h is live with n elements of size sz. -/
def LiveN (rows : Rows) (h sz n : Nat) : Prop := ∃ es, rows[h]? = some (.live sz es) ∧ es.length = n

def binI (op : BinOp) (k : IntKind) (a b : Int) (K : D → Prop) : Prop :=
  match op with
  | .add => K (.int k (k.wrap (a + b)))
  | .sub => K (.int k (k.wrap (a - b)))
  | .mul => K (.int k (k.wrap (a * b)))
  | .quo => b ≠ 0 ∧ K (.int k (k.wrap (a.tdiv b)))
  | .rem => b ≠ 0 ∧ K (.int k (a.tmod b))
  | .and => K (.int k (k.wrap ((BitVec.ofInt k.bits a &&& BitVec.ofInt k.bits b).toNat)))
  | .or => K (.int k (k.wrap ((BitVec.ofInt k.bits a ||| BitVec.ofInt k.bits b).toNat)))
  | .xor => K (.int k (k.wrap ((BitVec.ofInt k.bits a ^^^ BitVec.ofInt k.bits b).toNat)))
  | .andNot => K (.int k (k.wrap ((BitVec.ofInt k.bits a &&& ~~~ BitVec.ofInt k.bits b).toNat)))
  | .eql => K (.bool (decide (a = b)))
  | .neq => K (.bool (decide (a ≠ b)))
  | .lss => K (.bool (decide (a < b)))
  | .leq => K (.bool (decide (a ≤ b)))
  | .gtr => K (.bool (decide (b < a)))
  | .geq => K (.bool (decide (b ≤ a)))
  | _ => False

def binS (op : BinOp) (a b : List UInt8) (K : D → Prop) : Prop :=
  match op with
  | .add => a.length + b.length ≤ 9223372036854775807 ∧ K (.str (a ++ b))
  | .eql => K (.bool (decide (a = b)))
  | .neq => K (.bool (decide (a ≠ b)))
  | .lss => K (.bool (Op.bytesLess a b))
  | .leq => K (.bool (Op.bytesLess a b || decide (a = b)))
  | .gtr => K (.bool (!(Op.bytesLess a b || decide (a = b))))
  | .geq => K (.bool (!Op.bytesLess a b))
  | _ => False

def binW (op : BinOp) (x y : V) (K : D → Prop) : Prop :=
  match x, y with
  | .d (.int k a), .d (.int k' b) =>
    match op with
    | .shl => 0 ≤ b ∧ K (.int k (k.wrap (a * 2 ^ (min b.toNat k.bits))))
    | .shr => 0 ≤ b ∧ K (.int k (a / (2 ^ (min b.toNat k.bits))))
    | op => k = k' ∧ binI op k a b K
  | .d (.str a), .d (.str b) => binS op a b K
  | _, _ => False

def unW (op : UnOp) (x : V) (K : D → Prop) : Prop :=
  match op, x with
  | .neg, .d (.int k n) => K (.int k (k.wrap (0 - n)))
  | .xor, .d (.int k n) => K (.int k (k.wrap ((BitVec.ofInt k.bits (if k.signed then -1 else k.max) ^^^ BitVec.ofInt k.bits n).toNat)))
  | .not, .d (.bool b) => K (.bool (!b))
  | _, _ => False

/-- The cells of a value of sz cells. -/
def cellsW (v : V) (sz : Nat) (K : List V → Prop) : Prop :=
  match v with
  | .agg cs => cs.length = sz ∧ (∀ v ∈ cs, oneV v = true) ∧ K cs
  | .any => False
  | .tup _ => False
  | .d x => sz = 1 ∧ K [.d x]
  | .osl a b c d e => sz = 1 ∧ K [.osl a b c d e]
  | .optr a b c d e => sz = 1 ∧ K [.optr a b c d e]
  | .fn f a b => sz = 1 ∧ K [.fn f a b]

def setR (e : List V) (off : Nat) (cs : List V) : List V := e.take off ++ cs ++ e.drop (off + cs.length)

def partsW (ev : Opd → V) : List (Nat × Nat × Opd) → List V → (List V → Prop) → Prop
  | [], cells, K => K cells
  | (off, sz, x) :: ps, cells, K => off + sz ≤ cells.length ∧ cellsW (ev x) sz fun cs => partsW ev ps (setR cells off cs) K

def partsSl (ev : Opd → V) (sz : Nat) : List (Nat × Opd) → List (List V) → (List (List V) → Prop) → Prop
  | [], es, K => K es
  | (i, x) :: ps, es, K => i < es.length ∧ cellsW (ev x) sz fun cs => partsSl ev sz ps (es.set i cs) K

def intW (v : V) (K : Int → Prop) : Prop :=
  match v with
  | .d (.int _ n) => K n
  | _ => False

def bndW (ev : Opd → V) (o : Option Opd) (dflt : Int) (K : Int → Prop) : Prop :=
  match o with
  | none => K dflt
  | some x => intW (ev x) K

def bytesV (es : List (List D)) : List UInt8 := es.map fun e => match e with | [.int _ n] => UInt8.ofNat n.toNat | _ => 0
def isByte (e : List V) : Prop := ∃ n, e = [.d (.int .u8 n)]
def byteOfV (e : List V) : UInt8 := match e with | [.d (.int _ n)] => UInt8.ofNat n.toNat | _ => 0

def notStr : V → Bool
  | .d (.str _) => false
  | _ => true

/-- What a slice that is read holds. -/
def elemsW (rows : Rows) (sz : Nat) (v : V) (K : List (List V) → Prop) : Prop :=
  match v with
  | .d .nils => K []
  | .d (.sl s es) => s = sz ∧ K (es.map (·.map .d))
  | .d (.str s) => sz = 1 ∧ K (s.map fun b => [.d (.int .u8 b.toNat)])
  | .osl s h n off len => s = sz ∧ (∃ es, rows[h]? = some (.live sz es) ∧ es.length = n) ∧ ∀ es, rows[h]? = some (.live sz es) → K ((es.drop off).take len)
  | _ => False

/-- Two structs of plain fields, compared: 0 an integer, 1 a bool, 2 a string. -/
def eqC : List Nat → List V → List V → Option Bool
  | [], [], [] => some true
  | 0 :: ks, .d (.int k a) :: l, .d (.int k' b) :: m => if k = k' then (eqC ks l m).map (decide (a = b) && ·) else none
  | 1 :: ks, .d (.bool a) :: l, .d (.bool b) :: m => (eqC ks l m).map ((a == b) && ·)
  | 2 :: ks, .d (.str a) :: l, .d (.str b) :: m => (eqC ks l m).map (decide (a = b) && ·)
  | _, _, _ => none

def eqR (neg : Bool) (r : Option Bool) (K : V → List (Nat × RowS) → Prop) : Prop :=
  match r with
  | some r => K (.d (.bool (if neg then !r else r))) []
  | none => False

def maxBytes : Nat := 140737488355328

def opW (o : AOp) (ev : Opd → V) (rows : Rows) (hf : Nat) (K : V → List (Nat × RowS) → Prop) : Prop :=
  match o with
  | .mov x => K (ev x) []
  | .pick c a b =>
    match ev c with
    | .d (.bool t) => K (if t then ev a else ev b) []
    | _ => False
  | .nilck x =>
    match ev x with
    | .d (.ptr cs) => K (.d (.ptr cs)) []
    | .optr sz h n i off => LiveN rows h sz n ∧ K (.optr sz h n i off) []
    | .fn (.func f) a b => K (.fn (.func f) a b) []
    | _ => False
  | .bin op x y => binW op (ev x) (ev y) fun v => K (.d v) []
  | .eqB neg x y =>
    match ev x, ev y with
    | .d (.bool a), .d (.bool b) => K (.d (.bool (if neg then (a != b) else (a == b)))) []
    | _, _ => False
  | .eqS neg ks x y =>
    match ev x, ev y with
    | .agg a, .agg b => eqR neg (eqC ks a b) K
    | _, _ => False
  | .isNil neg x y =>
    match ev x, ev y with
    | .d .nils, .d .nils => K (.d (.bool !neg)) []
    | .d (.sl _ (_ :: _)), .d .nils => K (.d (.bool neg)) []
    | .d (.sl _ []), .d .nils => K (.d .boolU) []
    | _, _ => False
  | .un op x => unW op (ev x) fun v => K (.d v) []
  | .conv k x =>
    match ev x with
    | .d (.int _ n) => K (.d (.int k (k.wrap n))) []
    | _ => False
  | .same x =>
    match ev x with
    | .d (.str s) => K (.d (.str s)) []
    | _ => False
  | .s2b x =>
    match ev x with
    | .d (.str s) => K (.osl 1 hf s.length 0 s.length) [(hf, .live 1 (s.map fun b => [.d (.int .u8 b.toNat)]))]
    | _ => False
  | .b2s x => notStr (ev x) = true ∧ elemsW rows 1 (ev x) fun es => (∀ e ∈ es, isByte e) ∧ K (.d (.str (es.map byteOfV))) []
  | .alloc zero => K (.optr zero.length hf 1 0 0) [(hf, .live zero.length [zero.map .d])]
  | .box sz x => cellsW (ev x) sz fun cs => K (.optr sz hf 1 0 0) [(hf, .live sz [cs])]
  | .build zero parts => partsW ev parts (zero.map .d) fun cs => K (.agg cs) []
  | .buildSl sz len zero parts => partsSl ev sz parts (List.replicate len (zero.map .d)) fun es => K (.osl sz hf len 0 len) [(hf, .live sz es)]
  | .load agg sz a =>
    match ev a with
    | .d (.ptr cs) =>
      match agg with
      | true => sz ≤ cs.length ∧ K (.agg ((cs.take sz).map .d)) []
      | false => 0 < cs.length ∧ ∀ x, cs[0]? = some x → K (.d x) []
    | .optr s h n i off => LiveN rows h s n ∧ i < n ∧ off + sz ≤ s ∧ ∀ es e, rows[h]? = some (.live s es) → es[i]? = some e →
      match agg with
      | true => K (.agg ((e.drop off).take sz)) []
      | false => sz = 1 ∧ off < e.length ∧ ∀ x, e[off]? = some x → K x []
    | _ => False
  | .store sz a x =>
    match ev a with
    | .optr s h n i off => LiveN rows h s n ∧ i < n ∧ off + sz ≤ s ∧ cellsW (ev x) sz fun cs => ∀ es e, rows[h]? = some (.live s es) → es[i]? = some e →
        K .any [(h, .live s (es.set i (setR e off cs)))]
    | _ => False
  | .mksl sz bytes zero l c =>
    intW (ev l) fun l => intW (ev c) fun c => 0 ≤ l ∧ l ≤ c ∧ c ≤ 9223372036854775807 ∧ bytes * c ≤ 281474976710656 ∧
      K (.osl sz hf l.toNat 0 l.toNat) [(hf, .live sz (List.replicate l.toNat (zero.map .d)))]
  | .slice sz x lo hi =>
    match ev x with
    | .d .nils => sz ≠ 0 ∧ bndW ev lo 0 fun l => bndW ev hi 0 fun h => l = 0 ∧ h = 0 ∧ K (.d .nils) []
    | .d (.sl s es) => sz ≠ 0 ∧ s = sz ∧ bndW ev lo 0 fun l => bndW ev hi es.length fun h => 0 ≤ l ∧ l ≤ h ∧ h ≤ es.length ∧ K (.d (.sl sz ((es.take h.toNat).drop l.toNat))) []
    | .d (.str s) => sz = 0 ∧ bndW ev lo 0 fun l => bndW ev hi s.length fun h => 0 ≤ l ∧ l ≤ h ∧ h ≤ s.length ∧ K (.d (.str ((s.take h.toNat).drop l.toNat))) []
    | .osl s hh n off len => sz ≠ 0 ∧ s = sz ∧ LiveN rows hh s n ∧ bndW ev lo 0 fun l => bndW ev hi len fun h => 0 ≤ l ∧ l ≤ h ∧ h ≤ len ∧ K (.osl sz hh n (off + l.toNat) (h.toNat - l.toNat)) []
    | _ => False
  | .fldA off x =>
    match ev x with
    | .d (.ptr cs) => K (.d (.ptr (cs.drop off))) []
    | .optr s h n i o => LiveN rows h s n ∧ K (.optr s h n i (o + off)) []
    | _ => False
  | .fld off sz agg x =>
    match ev x with
    | .agg cs =>
      match agg with
      | true => off + sz ≤ cs.length ∧ K (.agg ((cs.drop off).take sz)) []
      | false => off < cs.length ∧ ∀ v, cs[off]? = some v → K v []
    | _ => False
  | .idxA sz arr x i =>
    intW (ev i) fun j =>
      match arr, ev x with
      | none, .d (.sl s es) => s = sz ∧ 0 ≤ j ∧ j < es.length ∧ ∀ e, es[j.toNat]? = some e → K (.d (.ptr e)) []
      | none, .osl s h n off len => s = sz ∧ LiveN rows h s n ∧ 0 ≤ j ∧ j < len ∧ K (.optr sz h n (off + j.toNat) 0) []
      | some m, .d (.ptr cs) => 0 ≤ j ∧ j < m ∧ K (.d (.ptr (cs.drop (j.toNat * sz)))) []
      | some m, .optr s h n i o => LiveN rows h s n ∧ 0 ≤ j ∧ j < m ∧ K (.optr s h n i (o + j.toNat * sz)) []
      | _, _ => False
  | .idx sz n agg x i =>
    intW (ev i) fun j =>
      match ev x with
      | .agg cs => 0 ≤ j ∧ j < n ∧ cs.length = n * sz ∧
        match agg with
        | true => K (.agg ((cs.drop (j.toNat * sz)).take sz)) []
        | false => sz = 1 ∧ ∀ v, cs[j.toNat]? = some v → K v []
      | _ => False
  | .idxS x i =>
    intW (ev i) fun j =>
      match ev x with
      | .d (.str s) => 0 ≤ j ∧ j < s.length ∧ ∀ b, s[j.toNat]? = some b → K (.d (.int .u8 b.toNat)) []
      | _ => False
  | .ext x i =>
    match ev x with
    | .tup vs => i < vs.length ∧ ∀ v, vs[i]? = some v → K v []
    | _ => False
  | .mkfn f first cap => K (.fn f (first.map ev) (cap.map ev)) []
  | .len str x =>
    match str, ev x with
    | false, .d .nils => K (.d (.int .i64 0)) []
    | false, .d (.sl _ es) => K (.d (.int .i64 es.length)) []
    | true, .d (.str s) => K (.d (.int .i64 s.length)) []
    | false, .osl s h n _ len => LiveN rows h s n ∧ K (.d (.int .i64 len)) []
    | _, _ => False
  | .append sz bytes s x =>
    elemsW rows sz (ev x) fun xs =>
      match ev s with
      | .d .nils => xs.length * bytes ≤ maxBytes ∧ K (.osl sz hf xs.length 0 xs.length) [(hf, .live sz xs)]
      | .osl s h n off len => s = sz ∧ off = 0 ∧ len = n ∧ LiveN rows h sz n ∧ (n + xs.length) * bytes ≤ maxBytes ∧
        ∀ es, rows[h]? = some (.live sz es) → K (.osl sz h (n + xs.length) 0 (n + xs.length)) [(h, .live sz (es ++ xs))]
      | _ => False
  | .copy sz d s =>
    elemsW rows sz (ev s) fun xs =>
      match ev d with
      | .d .nils => K (.d (.int .i64 0)) []
      | .osl s h n off len => s = sz ∧ LiveN rows h sz n ∧ ∀ es, rows[h]? = some (.live sz es) →
        K (.d (.int .i64 (min xs.length len : Nat))) [(h, .live sz (es.take off ++ xs.take len ++ es.drop (off + min xs.length len)))]
      | _ => False
  | .clr sz zero x =>
    match ev x with
    | .osl s h n off len => s = sz ∧ LiveN rows h sz n ∧ off + len ≤ n ∧ ∀ es, rows[h]? = some (.live sz es) →
      K (.tup []) [(h, .live sz (es.take off ++ List.replicate len (zero.map .d) ++ es.drop (off + len)))]
    | _ => False
  | .mn x y =>
    match ev x, ev y with
    | .d (.int k a), .d (.int _ b) => K (.d (.int k (if b < a then b else a))) []
    | _, _ => False
  | .mx x y =>
    match ev x, ev y with
    | .d (.int k a), .d (.int _ b) => K (.d (.int k (if a < b then b else a))) []
    | _, _ => False
  | .bad => False
  | .rng x =>
    match ev x with
    | .d (.str s) => K (.optr 0 hf 0 0 0) [(hf, .obj (.it s 0))]
    | _ => False
  | .nxt x =>
    match ev x with
    | .optr 0 h 0 0 0 => nxtW h rows[h]? K
    | _ => False
  | .mkmap => K (.optr 0 hf 0 1 0) [(hf, .obj (.mp []))]
  | .lkp ok z m k =>
    match ev m, ev k with
    | .optr 0 h 0 1 0, .d (.str s) => isSc z = true ∧ lkpW ok z rows[h]? s K
    | _, _ => False
  | .idxB x y =>
    match ev x, ev y with
    | .d (.str s), .d (.int .u8 c) => K (.d (.int .i64 (Lib.indexByte s c.toNat.toUInt8))) []
    | _, _ => False
  | .upd m k v =>
    match ev m, ev k, ev v with
    | .optr 0 h 0 1 0, .d (.str s), .d x => isSc x = true ∧ updW h rows[h]? s x K
    | _, _, _ => False

/-- The handles that an operation looks at. -/
def hOf : V → List Nat
  | .osl _ h _ _ _ => [h]
  | .optr _ h _ _ _ => [h]
  | _ => []

def setRows (rows : Rows) : List (Nat × RowS) → Rows
  | [] => rows
  | (h, r) :: l => setRows (rows.set h r) l

end Go.Vx
