import Derived.Test.YtkbjfoodikoppaaDoorVxFn
set_option linter.unusedSectionVars false
set_option linter.unusedSimpArgs false
set_option linter.unusedVariables false
namespace Go.Vx
set_option linter.unusedSectionVars false
variable [CtxPred]

abbrev KV := V → List (Nat × RowS) → Prop

def rowAt : Rows → Nat → RowS
  | [], _ => .dead
  | r :: _, 0 => r
  | _ :: l, n + 1 => rowAt l n

def setAt : Rows → Nat → RowS → Rows
  | [], _, _ => []
  | _ :: l, 0, r => r :: l
  | x :: l, n + 1, r => x :: setAt l n r

theorem rowAt_eq (rows : Rows) (h : Nat) : rowAt rows h = (rows[h]?).getD .dead := by
  induction rows generalizing h with
  | nil => rfl
  | cons r l ih => cases h with
    | zero => rfl
    | succ h => simpa [rowAt] using ih h

theorem rowAt_live {rows : Rows} {h sz : Nat} {es : List (List V)} : rows[h]? = some (.live sz es) ↔ rowAt rows h = .live sz es := by
  rw [rowAt_eq]
  cases rows[h]? <;> simp

theorem rowAt_un {rows : Rows} {h : Nat} : rows[h]? = some .un ↔ rowAt rows h = .un := by
  rw [rowAt_eq]
  cases rows[h]? <;> simp

/-- an element of a list, looked up -/
def getA {α : Type} : List α → Nat → (α → Prop) → Prop
  | [], _, _ => False
  | x :: _, 0, f => f x
  | _ :: l, n + 1, f => getA l n f

theorem getA_iff {α : Type} {l : List α} {i : Nat} {f : α → Prop} : getA l i f ↔ ∃ x, l[i]? = some x ∧ f x := by
  induction l generalizing i with
  | nil => simp [getA]
  | cons x l ih => cases i with
    | zero => simp [getA]
    | succ i => simpa [getA] using ih

theorem getA_of {α : Type} {l : List α} {i : Nat} {f : α → Prop} (hi : i < l.length) (h : ∀ x, l[i]? = some x → f x) : getA l i f :=
  getA_iff.2 ⟨l[i], List.getElem?_eq_getElem hi, h _ (List.getElem?_eq_getElem hi)⟩

theorem getA_len {α : Type} {l : List α} {i : Nat} {f : α → Prop} (h : getA l i f) : i < l.length := by
  obtain ⟨x, h, _⟩ := getA_iff.1 h
  exact (List.getElem?_eq_some_iff.1 h).1

/-- the row h is live: what follows looks at its elements -/
def liveA : RowS → Nat → Nat → (List (List V) → Prop) → Prop
  | .live s es, sz, n, f => s = sz ∧ es.length = n ∧ f es
  | .un, _, _, _ => False
  | .dead, _, _, _ => False
  | .obj _, _, _, _ => False

theorem liveA_iff {rows : Rows} {h sz n : Nat} {f : List (List V) → Prop} : liveA (rowAt rows h) sz n f ↔ ∃ es, rows[h]? = some (.live sz es) ∧ es.length = n ∧ f es := by
  simp only [rowAt_live]
  cases hr : rowAt rows h with
  | live s es =>
    constructor
    · rintro ⟨rfl, h2, h3⟩; exact ⟨es, rfl, h2, h3⟩
    · rintro ⟨es', h1, h2, h3⟩; injection h1 with e1 e2; subst e1 e2; exact ⟨rfl, h2, h3⟩
  | un => simp [liveA]
  | dead => simp [liveA]
  | obj o => simp [liveA]

def liveP : RowS → Nat → Nat → Prop
  | .live s es, sz, n => s = sz ∧ es.length = n
  | .un, _, _ => False
  | .dead, _, _ => False
  | .obj _, _, _ => False

theorem liveP_iff {rows : Rows} {h sz n : Nat} : liveP (rowAt rows h) sz n ↔ LiveN rows h sz n := by
  have := liveA_iff (rows := rows) (h := h) (sz := sz) (n := n) (f := fun _ => True)
  simp only [and_true] at this
  unfold LiveN
  rw [← this]
  cases rowAt rows h <;> simp [liveP, liveA]

def evs (fr : List V) : List Opd → List V
  | [] => []
  | x :: l => x.ev fr :: evs fr l

theorem evs_map (fr : List V) (l : List Opd) : evs fr l = l.map (Opd.ev fr) := by
  induction l with
  | nil => rfl
  | cons x l ih => simp [evs, ih]

def seqQ (P : Program) (b0 : Nat) (b : AC) (Q : AX → St → Prop) : AX → St → Prop := fun e S' =>
  match e with
  | .normal => wpC P b0 b Q S'
  | .exit i => Q (.exit i) S'
  | .ret => Q .ret S'

def blockQ (id : Nat) (Q : AX → St → Prop) : AX → St → Prop := fun e S' =>
  match e with
  | .normal => Q .normal S'
  | .exit i => if i = id then Q .normal S' else Q (.exit i) S'
  | .ret => Q .ret S'

def condA (v : V) (P : Program) (b0 : Nat) (a b : AC) (Q : AX → St → Prop) (S : St) : Prop := condW v (wpC P b0 a Q S) (wpC P b0 b Q S)

def runK (P : Program) (base : Nat) (l : List AStm) (K : St → Prop) (dst : Option Nat) (fr : List V) (rows : Rows) : KV := fun v ups =>
  runW P base l K ⟨putV fr dst v, setRows rows ups⟩

/-- as runW, where no row is changed -/
def runQ (P : Program) (base : Nat) : List AStm → (St → Prop) → St → Prop
  | [], K, S => K S
  | s :: l, K, S => stmU P base s S fun v ups => ups = [] ∧ runQ P base l K (S.after s v ups)

def runQK (P : Program) (base : Nat) (l : List AStm) (K : St → Prop) (dst : Option Nat) (fr : List V) (rows : Rows) : KV := fun v ups =>
  ups = [] ∧ runQ P base l K ⟨putV fr dst v, setRows rows ups⟩

def runDK (P : Program) (base : Nat) (l : List (AStm × List Nat)) (acc : List (List Nat × List Nat)) (K : St → Prop) (dst : Option Nat) (pre F : List Nat) (fr : List V) (rows : Rows) : KV := fun v ups =>
  compat acc pre F (ups.map (·.1)) = true ∧ (ups.map (·.1)).all F.contains = true ∧ runD P base l (acc ++ [(F, ups.map (·.1))]) K ⟨putV fr dst v, setRows rows ups⟩

def runIK (P : Program) (base : Nat) (fl : List Bool) (l : List AStm) (K : St → Prop) (dst : Option Nat) (fr : List V) (rows : Rows) : KV := fun v ups =>
  runI P base fl l K ⟨putV fr dst v, setRows rows ups⟩
def inlK (P : Program) (base : Nat) (fl : List Bool) (l : List AStm) (K : St → Prop) (dst : Option Nat) (fr : List V) : V → Rows → Prop := fun v rows' =>
  runI P base fl l K ⟨putV fr dst v, rows'⟩
def inlA (P : Program) (fv : V) (args : List V) (rows : Rows) (K : V → Rows → Prop) : Prop :=
  match fv with
  | .fn (.func g) first cap => InlP P g (first ++ args ++ cap) rows K
  | _ => False

def guardA (g : V) (want : Bool) (P : Program) (base : Nat) (s : AStm) (S : St) (κ : KV) : Prop :=
  match g with
  | .d (.bool b) => (b = want → stmU P base s S κ) ∧ (b ≠ want → κ (.tup []) [])
  | .tup [] => κ (.tup []) []
  | _ => False

def pickA : V → V → V → KV → Prop
  | .d (.bool true), a, _, K => K a []
  | .d (.bool false), _, b, K => K b []
  | _, _, _, _ => False
def binA (op : BinOp) (x y : V) (K : KV) : Prop := binW op x y fun v => K (.d v) []
def unA (op : UnOp) (x : V) (K : KV) : Prop := unW op x fun v => K (.d v) []
def eqSA (neg : Bool) (ks : List Nat) : V → V → KV → Prop
  | .agg a, .agg b, K => eqR neg (eqC ks a b) K
  | _, _, _ => False
def isNilA (neg : Bool) : V → V → KV → Prop
  | .d .nils, .d .nils, K => K (.d (.bool !neg)) []
  | .d (.sl _ (_ :: _)), .d .nils, K => K (.d (.bool neg)) []
  | .d (.sl _ []), .d .nils, K => K (.d .boolU) []
  | _, _, _ => False
def eqBA (neg : Bool) : V → V → KV → Prop
  | .d (.bool a), .d (.bool b), K => K (.d (.bool (if neg then (a != b) else (a == b)))) []
  | _, _, _ => False
def convA (k : IntKind) : V → KV → Prop
  | .d (.int _ n), K => K (.d (.int k (k.wrap n))) []
  | _, _ => False
def sameA : V → KV → Prop
  | .d (.str s), K => K (.d (.str s)) []
  | _, _ => False
def nilckA (rows : Rows) : V → KV → Prop
  | .d (.ptr cs), K => K (.d (.ptr cs)) []
  | .optr sz h n i off, K => liveP (rowAt rows h) sz n ∧ K (.optr sz h n i off) []
  | .fn (.func f) a b, K => K (.fn (.func f) a b) []
  | _, _ => False
def s2bA (hf : Nat) : V → KV → Prop
  | .d (.str s), K => K (.osl 1 hf s.length 0 s.length) [(hf, .live 1 (s.map fun b => [.d (.int .u8 b.toNat)]))]
  | _, _ => False

def boxK (sz hf : Nat) (K : KV) : List V → Prop := fun cs => K (.optr sz hf 1 0 0) [(hf, .live sz [cs])]
def boxA (sz hf : Nat) (v : V) (K : KV) : Prop := cellsW v sz (boxK sz hf K)

mutual
def buildA (fr : List V) : List (Nat × Nat × Opd) → List V → (List V → Prop) → Prop
  | [], cells, K => K cells
  | (off, sz, x) :: ps, cells, K => off + sz ≤ cells.length ∧ cellsW (x.ev fr) sz (buildK fr ps off cells K)
def buildK (fr : List V) : List (Nat × Nat × Opd) → Nat → List V → (List V → Prop) → List V → Prop
  | ps, off, cells, K, cs => buildA fr ps (setR cells off cs) K
end
def aggK (K : KV) : List V → Prop := fun cs => K (.agg cs) []
mutual
def bslA (fr : List V) (sz : Nat) : List (Nat × Opd) → List (List V) → (List (List V) → Prop) → Prop
  | [], es, K => K es
  | (i, x) :: ps, es, K => i < es.length ∧ cellsW (x.ev fr) sz (bslK fr sz ps i es K)
def bslK (fr : List V) (sz : Nat) : List (Nat × Opd) → Nat → List (List V) → (List (List V) → Prop) → List V → Prop
  | ps, i, es, K, cs => bslA fr sz ps (es.set i cs) K
end
def rowK (sz h n : Nat) (K : KV) : List (List V) → Prop := fun es => K (.osl sz h n 0 n) [(h, .live sz es)]

def ldK (K : KV) : V → Prop := fun x => K x []
def ldDK (K : KV) : D → Prop := fun x => K (.d x) []
def loadE (agg : Bool) (sz off : Nat) (K : KV) : List V → Prop := fun e =>
  match agg with
  | true => K (.agg ((e.drop off).take sz)) []
  | false => getA e off (ldK K)
def loadR (agg : Bool) (sz s i off : Nat) (K : KV) : List (List V) → Prop := fun es => off + sz ≤ s ∧ (agg = false → sz = 1) ∧ getA es i (loadE agg sz off K)
def loadA (rows : Rows) : Bool → Nat → V → KV → Prop
  | true, sz, .d (.ptr cs), K => sz ≤ cs.length ∧ K (.agg ((cs.take sz).map .d)) []
  | false, _, .d (.ptr cs), K => getA cs 0 (ldDK K)
  | agg, sz, .optr s h n i off, K => liveA (rowAt rows h) s n (loadR agg sz s i off K)
  | _, _, _, _ => False

def stE (K : KV) (h s i off : Nat) (es : List (List V)) (cs : List V) : List V → Prop := fun e => K .any [(h, .live s (es.set i (setR e off cs)))]
def stC (K : KV) (h s i off : Nat) (es : List (List V)) : List V → Prop := fun cs => getA es i (stE K h s i off es cs)
def stR (sz h s i off : Nat) (x : V) (K : KV) : List (List V) → Prop := fun es => off + sz ≤ s ∧ cellsW x sz (stC K h s i off es)
def storeA (rows : Rows) (sz : Nat) : V → V → KV → Prop
  | .optr s h n i off, x, K => liveA (rowAt rows h) s n (stR sz h s i off x K)
  | _, _, _ => False

def mkslA (sz bytes : Nat) (zero : List D) (hf : Nat) : V → V → KV → Prop
  | .d (.int _ l), .d (.int _ c), K => 0 ≤ l ∧ l ≤ c ∧ c ≤ 9223372036854775807 ∧ bytes * c ≤ 281474976710656 ∧
      K (.osl sz hf l.toNat 0 l.toNat) [(hf, .live sz (List.replicate l.toNat (zero.map .d)))]
  | _, _, _ => False

def evO (fr : List V) (o : Option Opd) : Option V := o.map (Opd.ev fr)
def bI : Option V → Int → Option Int
  | none, d => some d
  | some (.d (.int _ n)), _ => some n
  | _, _ => none
def dfl : V → Int
  | .d (.sl _ es) => es.length
  | .d (.str s) => s.length
  | .osl _ _ _ _ len => len
  | _ => 0
def sliceB (rows : Rows) (sz : Nat) : V → Option Int → Option Int → KV → Prop
  | .d .nils, some l, some h, K => sz ≠ 0 ∧ l = 0 ∧ h = 0 ∧ K (.d .nils) []
  | .d (.sl s es), some l, some h, K => sz ≠ 0 ∧ s = sz ∧ 0 ≤ l ∧ l ≤ h ∧ h ≤ es.length ∧ K (.d (.sl sz ((es.take h.toNat).drop l.toNat))) []
  | .d (.str s), some l, some h, K => sz = 0 ∧ 0 ≤ l ∧ l ≤ h ∧ h ≤ s.length ∧ K (.d (.str ((s.take h.toNat).drop l.toNat))) []
  | .osl s hh n off len, some l, some h, K => sz ≠ 0 ∧ s = sz ∧ liveP (rowAt rows hh) s n ∧ 0 ≤ l ∧ l ≤ h ∧ h ≤ len ∧ K (.osl sz hh n (off + l.toNat) (h.toNat - l.toNat)) []
  | _, _, _, _ => False
def sliceA (rows : Rows) (sz : Nat) (x : V) (lo hi : Option V) (K : KV) : Prop := sliceB rows sz x (bI lo 0) (bI hi (dfl x)) K

def fldAA (rows : Rows) (off : Nat) : V → KV → Prop
  | .d (.ptr cs), K => K (.d (.ptr (cs.drop off))) []
  | .optr s h n i o, K => liveP (rowAt rows h) s n ∧ K (.optr s h n i (o + off)) []
  | _, _ => False
def fldG : Nat → Nat → Bool → V → KV → Prop
  | off, sz, true, .agg cs, K => off + sz ≤ cs.length ∧ K (.agg ((cs.drop off).take sz)) []
  | off, _, false, .agg cs, K => getA cs off (ldK K)
  | _, _, _, _, _ => False
def idxK (K : KV) : List D → Prop := fun e => K (.d (.ptr e)) []
def idxAA (rows : Rows) (sz : Nat) : Option Nat → V → V → KV → Prop
  | none, .d (.sl s es), .d (.int _ j), K => s = sz ∧ 0 ≤ j ∧ j < es.length ∧ getA es j.toNat (idxK K)
  | none, .osl s h n off len, .d (.int _ j), K => s = sz ∧ 0 ≤ j ∧ j < len ∧ liveP (rowAt rows h) s n ∧ K (.optr sz h n (off + j.toNat) 0) []
  | some m, .d (.ptr cs), .d (.int _ j), K => 0 ≤ j ∧ j < m ∧ K (.d (.ptr (cs.drop (j.toNat * sz)))) []
  | some m, .optr s h n i o, .d (.int _ j), K => 0 ≤ j ∧ j < m ∧ liveP (rowAt rows h) s n ∧ K (.optr s h n i (o + j.toNat * sz)) []
  | _, _, _, _ => False
def idxG (sz n : Nat) : Bool → V → V → KV → Prop
  | true, .agg cs, .d (.int _ j), K => 0 ≤ j ∧ j < n ∧ cs.length = n * sz ∧ K (.agg ((cs.drop (j.toNat * sz)).take sz)) []
  | false, .agg cs, .d (.int _ j), K => 0 ≤ j ∧ j < n ∧ cs.length = n * sz ∧ sz = 1 ∧ getA cs j.toNat (ldK K)
  | _, _, _, _ => False
def byK (K : KV) : UInt8 → Prop := fun b => K (.d (.int .u8 b.toNat)) []
def idxSA : V → V → KV → Prop
  | .d (.str s), .d (.int _ j), K => 0 ≤ j ∧ j < s.length ∧ getA s j.toNat (byK K)
  | _, _, _ => False
def extA (i : Nat) : V → KV → Prop
  | .tup vs, K => getA vs i (ldK K)
  | _, _ => False
def lenA (rows : Rows) : Bool → V → KV → Prop
  | false, .d .nils, K => K (.d (.int .i64 0)) []
  | false, .d (.sl _ es), K => K (.d (.int .i64 es.length)) []
  | true, .d (.str s), K => K (.d (.int .i64 s.length)) []
  | false, .osl s h n _ len, K => liveP (rowAt rows h) s n ∧ K (.d (.int .i64 len)) []
  | _, _, _ => False
def elemsE (off len : Nat) (K : List (List V) → Prop) : List (List V) → Prop := fun es => K ((es.drop off).take len)
/-- what a slice that is read holds -/
def elemsA (rows : Rows) (sz : Nat) : V → (List (List V) → Prop) → Prop
  | .d .nils, K => K []
  | .d (.sl s es), K => s = sz ∧ K (es.map (·.map .d))
  | .d (.str s), K => sz = 1 ∧ K (s.map fun b => [.d (.int .u8 b.toNat)])
  | .osl s h n off len, K => s = sz ∧ liveA (rowAt rows h) sz n (elemsE off len K)
  | _, _ => False
def b2sK (K : KV) : List (List V) → Prop := fun es => (∀ e ∈ es, isByte e) ∧ K (.d (.str (es.map byteOfV))) []
def b2sA (rows : Rows) (v : V) (K : KV) : Prop := notStr v = true ∧ elemsA rows 1 v (b2sK K)
def appR (sz bytes h n : Nat) (xs : List (List V)) (K : KV) : List (List V) → Prop := fun es =>
  (n + xs.length) * bytes ≤ maxBytes ∧ K (.osl sz h (n + xs.length) 0 (n + xs.length)) [(h, .live sz (es ++ xs))]
def appA (rows : Rows) (sz bytes hf : Nat) : V → KV → List (List V) → Prop
  | .d .nils, K, xs => xs.length * bytes ≤ maxBytes ∧ K (.osl sz hf xs.length 0 xs.length) [(hf, .live sz xs)]
  | .osl s h n off len, K, xs => s = sz ∧ off = 0 ∧ len = n ∧ liveA (rowAt rows h) sz n (appR sz bytes h n xs K)
  | _, _, _ => False
def copR (sz h off len : Nat) (xs : List (List V)) (K : KV) : List (List V) → Prop := fun es =>
  K (.d (.int .i64 (min xs.length len : Nat))) [(h, .live sz (es.take off ++ xs.take len ++ es.drop (off + min xs.length len)))]
def copA (rows : Rows) (sz : Nat) : V → KV → List (List V) → Prop
  | .d .nils, K, _ => K (.d (.int .i64 0)) []
  | .osl s h n off len, K, xs => s = sz ∧ liveA (rowAt rows h) sz n (copR sz h off len xs K)
  | _, _, _ => False
def clrR (sz h off len : Nat) (z : List D) (K : KV) : List (List V) → Prop := fun es =>
  K (.tup []) [(h, .live sz (es.take off ++ List.replicate len (z.map .d) ++ es.drop (off + len)))]
def clrA (rows : Rows) (sz : Nat) (z : List D) : V → KV → Prop
  | .osl s h n off len, K => s = sz ∧ off + len ≤ n ∧ liveA (rowAt rows h) sz n (clrR sz h off len z K)
  | _, _ => False
def mnA : V → V → KV → Prop
  | .d (.int k a), .d (.int _ b), K => K (.d (.int k (if b < a then b else a))) []
  | _, _, _ => False
def mxA : V → V → KV → Prop
  | .d (.int k a), .d (.int _ b), K => K (.d (.int k (if a < b then b else a))) []
  | _, _, _ => False

/-- a call, its arguments reckoned -/
def callA (P : Program) (fv : V) (args : List V) (rows : Rows) (K : KV) : Prop := callW P fv args rows K

section
variable {P : Program} {base hi : Nat} {l : List AStm} {K : St → Prop} {fr : List V} {rows : Rows} {dst : Option Nat} {κ : KV}

theorem r_nil {S : St} : runW P base [] K S = K S := rfl
theorem r_k {v : V} {u : List (Nat × RowS)} : runK P base l K dst fr rows v u = runW P base l K ⟨putV fr dst v, setRows rows u⟩ := rfl
theorem r_cons {g : Option (Nat × Bool)} {act : AAct} : runW P base (⟨dst, hi, g, act⟩ :: l) K ⟨fr, rows⟩ = stmU P base ⟨dst, hi, g, act⟩ ⟨fr, rows⟩ (runK P base l K dst fr rows) := rfl
theorem q_nil {S : St} : runQ P base [] K S = K S := rfl
theorem q_k {v : V} : runQK P base l K dst fr rows v [] = runQ P base l K ⟨putV fr dst v, rows⟩ := by simp [runQK, setRows]
theorem q_cons {g : Option (Nat × Bool)} {act : AAct} : runQ P base (⟨dst, hi, g, act⟩ :: l) K ⟨fr, rows⟩ = stmU P base ⟨dst, hi, g, act⟩ ⟨fr, rows⟩ (runQK P base l K dst fr rows) := rfl
theorem d_nil {acc : List (List Nat × List Nat)} {S : St} : runD P base [] acc K S = K S := rfl
theorem d_cons {acc : List (List Nat × List Nat)} {dl : List (AStm × List Nat)} {pre : List Nat} {g : Option (Nat × Bool)} {act : AAct} :
    runD P base ((⟨dst, hi, g, act⟩, pre) :: dl) acc K ⟨fr, rows⟩ = stmU P base ⟨dst, hi, g, act⟩ ⟨fr, rows⟩ (runDK P base dl acc K dst pre (AStm.foot ⟨dst, hi, g, act⟩ base fr) fr rows) := rfl
/-- one step of a drawn region -/
theorem d_k {acc : List (List Nat × List Nat)} {dl : List (AStm × List Nat)} {pre F : List Nat} {v : V} {u : List (Nat × RowS)} (h1 : compat acc pre F (u.map (·.1)) = true) (h2 : (u.map (·.1)).all F.contains = true)
    (h : runD P base dl (acc ++ [(F, u.map (·.1))]) K ⟨putV fr dst v, setRows rows u⟩) : runDK P base dl acc K dst pre F fr rows v u := ⟨h1, h2, h⟩
theorem r_mov {x : Opd} : stmU P base ⟨dst, hi, none, .op (.mov x)⟩ ⟨fr, rows⟩ κ = κ (x.ev fr) [] := by
  simp [stmU, actW, AOp.makes, opW]
theorem r_guard {t : Nat} {w : Bool} {act : AAct} : stmU P base ⟨dst, hi, some (t, w), act⟩ ⟨fr, rows⟩ κ = guardA (nth fr t) w P base ⟨dst, hi, none, act⟩ ⟨fr, rows⟩ κ := by
  simp only [stmU, guardA]
  cases nth fr t with
  | d x => cases x <;> rfl
  | tup vs => cases vs <;> rfl
  | _ => rfl
theorem g_tt {s : AStm} {S : St} : guardA (.d (.bool true)) true P base s S κ = stmU P base s S κ := by simp [guardA]
theorem g_ff {s : AStm} {S : St} : guardA (.d (.bool false)) false P base s S κ = stmU P base s S κ := by simp [guardA]
theorem g_tf {s : AStm} {S : St} : guardA (.d (.bool true)) false P base s S κ = κ (.tup []) [] := by simp [guardA]
theorem g_ft {s : AStm} {S : St} : guardA (.d (.bool false)) true P base s S κ = κ (.tup []) [] := by simp [guardA]
theorem g_un {s : AStm} {S : St} {w : Bool} : guardA (.tup []) w P base s S κ = κ (.tup []) [] := by simp [guardA]
theorem r_op {o : AOp} (hm : o.makes = false) : stmU P base ⟨dst, hi, none, .op o⟩ ⟨fr, rows⟩ κ = opW o (Opd.ev fr) rows (base + hi) κ := by
  simp only [stmU, actW, hm]
  simp
theorem r_opM {o : AOp} (hm : o.makes = true) : stmU P base ⟨dst, hi, none, .op o⟩ ⟨fr, rows⟩ κ = (rowAt rows (base + hi) = .un ∧ opW o (Opd.ev fr) rows (base + hi) κ) := by
  simp only [stmU, actW, hm, rowAt_un]
  simp

theorem r_pick {c a b : Opd} : stmU P base ⟨dst, hi, none, .op (.pick c a b)⟩ ⟨fr, rows⟩ κ = pickA (c.ev fr) (a.ev fr) (b.ev fr) κ := by
  rw [r_op rfl]; simp only [opW]
  cases c.ev fr with
  | d x => cases x with
    | bool t => cases t <;> rfl
    | _ => rfl
  | _ => rfl
theorem r_bin {op : BinOp} {x y : Opd} : stmU P base ⟨dst, hi, none, .op (.bin op x y)⟩ ⟨fr, rows⟩ κ = binA op (x.ev fr) (y.ev fr) κ := r_op rfl
theorem r_un {op : UnOp} {x : Opd} : stmU P base ⟨dst, hi, none, .op (.un op x)⟩ ⟨fr, rows⟩ κ = unA op (x.ev fr) κ := r_op rfl
theorem r_eqB {neg : Bool} {x y : Opd} : stmU P base ⟨dst, hi, none, .op (.eqB neg x y)⟩ ⟨fr, rows⟩ κ = eqBA neg (x.ev fr) (y.ev fr) κ := by
  rw [r_op rfl]; simp only [opW]
  split
  · rename_i h1 h2; rw [h1, h2]; rfl
  · rename_i h; rw [eqBA]; exact h
theorem r_eqS {neg : Bool} {ks : List Nat} {x y : Opd} : stmU P base ⟨dst, hi, none, .op (.eqS neg ks x y)⟩ ⟨fr, rows⟩ κ = eqSA neg ks (x.ev fr) (y.ev fr) κ := by
  rw [r_op rfl]; simp only [opW]
  split
  · rename_i h1 h2; rw [h1, h2]; rfl
  · rename_i h; rw [eqSA]; exact h
theorem r_isNil {neg : Bool} {x y : Opd} : stmU P base ⟨dst, hi, none, .op (.isNil neg x y)⟩ ⟨fr, rows⟩ κ = isNilA neg (x.ev fr) (y.ev fr) κ := by
  rw [r_op rfl]; simp only [opW]
  split
  · rename_i h h'; rw [h, h']; rfl
  · rename_i h h'; rw [h, h']; rfl
  · rename_i h h'; rw [h, h']; rfl
  · rename_i h1 h2 h3; rw [isNilA]
    · exact h1
    · exact h2
    · exact h3
theorem r_conv {k : IntKind} {x : Opd} : stmU P base ⟨dst, hi, none, .op (.conv k x)⟩ ⟨fr, rows⟩ κ = convA k (x.ev fr) κ := by
  rw [r_op rfl]; simp only [opW]
  split
  · rename_i h; rw [h]; rfl
  · rename_i h; rw [convA]; exact h
theorem r_same {x : Opd} : stmU P base ⟨dst, hi, none, .op (.same x)⟩ ⟨fr, rows⟩ κ = sameA (x.ev fr) κ := by
  rw [r_op rfl]; simp only [opW]
  split
  · rename_i h; rw [h]; rfl
  · rename_i h; rw [sameA]; exact h
theorem r_nilck {x : Opd} : stmU P base ⟨dst, hi, none, .op (.nilck x)⟩ ⟨fr, rows⟩ κ = nilckA rows (x.ev fr) κ := by
  rw [r_op rfl]; simp only [opW]
  cases x.ev fr with
  | d y => cases y <;> rfl
  | optr s h n i o => simp only [nilckA, liveP_iff]
  | fn f a b => cases f <;> rfl
  | _ => rfl
theorem r_s2b {x : Opd} : stmU P base ⟨dst, hi, none, .op (.s2b x)⟩ ⟨fr, rows⟩ κ = (rowAt rows (base + hi) = .un ∧ s2bA (base + hi) (x.ev fr) κ) := by
  rw [r_opM rfl]; simp only [opW]
  congr 1
  split
  · rename_i h; rw [h]; rfl
  · rename_i h; rw [s2bA]; exact h
theorem r_alloc {z : List D} : stmU P base ⟨dst, hi, none, .op (.alloc z)⟩ ⟨fr, rows⟩ κ = (rowAt rows (base + hi) = .un ∧ κ (.optr z.length (base + hi) 1 0 0) [(base + hi, .live z.length [z.map .d])]) := r_opM rfl
theorem r_box {sz : Nat} {x : Opd} : stmU P base ⟨dst, hi, none, .op (.box sz x)⟩ ⟨fr, rows⟩ κ = (rowAt rows (base + hi) = .un ∧ boxA sz (base + hi) (x.ev fr) κ) := r_opM rfl
theorem build_iff (f : List V → Prop) : ∀ (ps : List (Nat × Nat × Opd)) (cells : List V), partsW (Opd.ev fr) ps cells f = buildA fr ps cells f := by
  intro ps
  induction ps with
  | nil => intro cells; simp only [partsW, buildA]
  | cons p ps ih =>
    obtain ⟨off, sz, x⟩ := p
    intro cells
    simp only [partsW, buildA, ih]
    congr 2
    funext cs
    simp only [buildK]
theorem r_build {z : List D} {ps : List (Nat × Nat × Opd)} : stmU P base ⟨dst, hi, none, .op (.build z ps)⟩ ⟨fr, rows⟩ κ = buildA fr ps (z.map .d) (aggK κ) := by
  rw [r_op rfl, ← build_iff]; rfl
theorem bsl_iff (sz : Nat) (f : List (List V) → Prop) : ∀ (ps : List (Nat × Opd)) (es : List (List V)), partsSl (Opd.ev fr) sz ps es f = bslA fr sz ps es f := by
  intro ps
  induction ps with
  | nil => intro cells; simp only [partsSl, bslA]
  | cons p ps ih =>
    obtain ⟨i, x⟩ := p
    intro cells
    simp only [partsSl, bslA, ih]
    congr 2
    funext cs
    simp only [bslK]
theorem r_buildSl {sz n : Nat} {z : List D} {ps : List (Nat × Opd)} : stmU P base ⟨dst, hi, none, .op (.buildSl sz n z ps)⟩ ⟨fr, rows⟩ κ =
    (rowAt rows (base + hi) = .un ∧ bslA fr sz ps (List.replicate n (z.map .d)) (rowK sz (base + hi) n κ)) := by
  rw [r_opM rfl, ← bsl_iff]; rfl
theorem r_load {agg : Bool} {sz : Nat} {x : Opd} : stmU P base ⟨dst, hi, none, .op (.load agg sz x)⟩ ⟨fr, rows⟩ κ = loadA rows agg sz (x.ev fr) κ := by
  rw [r_op rfl]; simp only [opW]
  cases x.ev fr with
  | d y =>
    cases y with
    | ptr cs =>
      cases agg with
      | true => rfl
      | false =>
        cases cs with
        | nil => simp [loadA, getA]
        | cons y l => simp [loadA, getA, ldDK]
    | _ => cases agg <;> rfl
  | optr s h n i off =>
    have : loadA rows agg sz (.optr s h n i off) κ = liveA (rowAt rows h) s n (loadR agg sz s i off κ) := by cases agg <;> rfl
    rw [this]
    simp only [eq_iff_iff, liveA_iff, loadR, getA_iff]
    constructor
    · rintro ⟨⟨es, h1, h2⟩, h3, h4, h5⟩
      have he : es[i]? = some es[i] := List.getElem?_eq_getElem (by omega)
      have h6 := h5 es _ h1 he
      cases agg with
      | true => exact ⟨es, h1, h2, h4, by simp, _, he, h6⟩
      | false => exact ⟨es, h1, h2, h4, fun _ => h6.1, _, he, getA_of h6.2.1 h6.2.2⟩
    · rintro ⟨es, h1, h2, h3, h4, e, h5, h6⟩
      refine ⟨⟨es, h1, h2⟩, by have := (List.getElem?_eq_some_iff.1 h5).1; omega, h3, fun es' e' h7 h8 => ?_⟩
      rw [h1] at h7; injection h7 with h7; injection h7 with _ h7; subst h7
      rw [h5] at h8; injection h8 with h8; subst h8
      cases agg with
      | true => exact h6
      | false =>
        refine ⟨h4 rfl, getA_len h6, fun x hx => ?_⟩
        obtain ⟨x', h9, h10⟩ := getA_iff.1 h6
        rw [h9] at hx; injection hx with hx; subst hx
        exact h10
  | _ => cases agg <;> rfl
theorem cellsW_mono {v : V} {sz : Nat} {f g : List V → Prop} (h : ∀ cs, f cs → g cs) : cellsW v sz f → cellsW v sz g := by
  unfold cellsW
  split <;> (intro hh; first | exact hh.elim | skip)
  · exact ⟨hh.1, hh.2.1, h _ hh.2.2⟩
  all_goals exact ⟨hh.1, h _ hh.2⟩
theorem r_store {sz : Nat} {a x : Opd} : stmU P base ⟨dst, hi, none, .op (.store sz a x)⟩ ⟨fr, rows⟩ κ = storeA rows sz (a.ev fr) (x.ev fr) κ := by
  rw [r_op rfl]; simp only [opW]
  cases a.ev fr with
  | optr s h n i off =>
    simp only [storeA, eq_iff_iff, liveA_iff, stR]
    constructor
    · rintro ⟨⟨es, h1, h2⟩, h3, h4, h5⟩
      exact ⟨es, h1, h2, h4, cellsW_mono (fun cs hcs => getA_of (by omega) fun e he => hcs es e h1 he) h5⟩
    · rintro ⟨es, h1, h2, h3, h4⟩
      have hi : i < n := by
        revert h4
        unfold cellsW
        split <;> (intro hh; first | exact hh.elim | skip)
        · have := getA_len hh.2.2; omega
        all_goals (have := getA_len hh.2; omega)
      refine ⟨⟨es, h1, h2⟩, hi, h3, cellsW_mono (fun cs hcs es' e h5 h6 => ?_) h4⟩
      rw [h1] at h5; injection h5 with h5; injection h5 with _ h5; subst h5
      obtain ⟨e', h7, h8⟩ := getA_iff.1 hcs
      rw [h7] at h6; injection h6 with h6; subst h6
      exact h8
  | _ => rfl
theorem r_mksl {sz bytes : Nat} {z : List D} {x y : Opd} : stmU P base ⟨dst, hi, none, .op (.mksl sz bytes z x y)⟩ ⟨fr, rows⟩ κ = (rowAt rows (base + hi) = .un ∧ mkslA sz bytes z (base + hi) (x.ev fr) (y.ev fr) κ) := by
  rw [r_opM rfl]; simp only [opW, intW]
  congr 1
  split
  · rename_i h; rw [h]
    split
    · rename_i h; rw [h]; rfl
    · rename_i h; rw [mkslA]; intro _ _ _ _ h1 h2; exact h _ _ h2
  · rename_i h; rw [mkslA]; intro _ _ _ _ h1 h2; exact h _ _ h1
theorem bnd_iff {o : Option Opd} {d : Int} {f : Int → Prop} : bndW (Opd.ev fr) o d f ↔ ∃ n, bI (evO fr o) d = some n ∧ f n := by
  cases o with
  | none => simp [bndW, evO, bI]
  | some x =>
    simp only [bndW, evO, Option.map_some, intW]
    cases x.ev fr with
    | d y => cases y <;> simp [bI]
    | _ => simp [bI]
theorem r_slice {sz : Nat} {x : Opd} {lo h : Option Opd} : stmU P base ⟨dst, hi, none, .op (.slice sz x lo h)⟩ ⟨fr, rows⟩ κ = sliceA rows sz (x.ev fr) (evO fr lo) (evO fr h) κ := by
  rw [r_op rfl, eq_iff_iff]; simp only [opW, bnd_iff, sliceA]
  cases x.ev fr with
  | d y =>
    cases y with
    | nils => cases hl : bI (evO fr lo) 0 <;> cases hh : bI (evO fr h) 0 <;> simp [sliceB, dfl, hh]
    | sl s es => cases hl : bI (evO fr lo) 0 <;> cases hh : bI (evO fr h) es.length <;> simp [sliceB, dfl, hh]
    | str s => cases hl : bI (evO fr lo) 0 <;> cases hh : bI (evO fr h) s.length <;> simp [sliceB, dfl, hh]
    | _ => simp [sliceB]
  | osl s hh n off len => cases hl : bI (evO fr lo) 0 <;> cases hh : bI (evO fr h) len <;> simp [sliceB, dfl, hh, liveP_iff]
  | _ => simp [sliceB]
theorem r_fldA {off : Nat} {x : Opd} : stmU P base ⟨dst, hi, none, .op (.fldA off x)⟩ ⟨fr, rows⟩ κ = fldAA rows off (x.ev fr) κ := by
  rw [r_op rfl]; simp only [opW, ← liveP_iff]
  cases x.ev fr with
  | d y => cases y <;> rfl
  | _ => rfl
theorem get_iff {α : Type} {e : List α} {i : Nat} {f : α → Prop} : (i < e.length ∧ ∀ v, e[i]? = some v → f v) = getA e i f := by
  rw [eq_iff_iff]
  constructor
  · rintro ⟨h1, h2⟩; exact getA_of h1 h2
  · intro h
    refine ⟨getA_len h, fun v hv => ?_⟩
    obtain ⟨v', h1, h2⟩ := getA_iff.1 h
    rw [h1] at hv; injection hv with hv; subst hv; exact h2
theorem r_fld {off sz : Nat} {agg : Bool} {x : Opd} : stmU P base ⟨dst, hi, none, .op (.fld off sz agg x)⟩ ⟨fr, rows⟩ κ = fldG off sz agg (x.ev fr) κ := by
  rw [r_op rfl]; simp only [opW]
  cases x.ev fr with
  | agg cs =>
    cases agg with
    | true => rfl
    | false => exact get_iff
  | _ => cases agg <;> rfl
theorem r_idxA {sz : Nat} {arr : Option Nat} {x i : Opd} : stmU P base ⟨dst, hi, none, .op (.idxA sz arr x i)⟩ ⟨fr, rows⟩ κ = idxAA rows sz arr (x.ev fr) (i.ev fr) κ := by
  rw [r_op rfl]; simp only [opW, intW]
  cases i.ev fr with
  | d y =>
    cases y with
    | int k j =>
      cases arr with
      | none =>
        cases x.ev fr with
        | d z =>
          cases z with
          | sl s es =>
            simp only [idxAA, eq_iff_iff]
            constructor
            · rintro ⟨h1, h2, h3, h4⟩; exact ⟨h1, h2, h3, getA_of (by omega) h4⟩
            · rintro ⟨h1, h2, h3, h4⟩
              rw [← get_iff] at h4
              exact ⟨h1, h2, h3, h4.2⟩
          | _ => rfl
        | osl s h n off len =>
          simp only [idxAA, liveP_iff, eq_iff_iff]
          constructor
          · rintro ⟨h1, h2, h3, h4, h5⟩; exact ⟨h1, h3, h4, h2, h5⟩
          · rintro ⟨h1, h3, h4, h2, h5⟩; exact ⟨h1, h2, h3, h4, h5⟩
        | _ => rfl
      | some m =>
        cases x.ev fr with
        | d z => cases z <;> rfl
        | optr s h n i o =>
          simp only [idxAA, liveP_iff, eq_iff_iff]
          constructor
          · rintro ⟨h1, h2, h3, h4⟩; exact ⟨h2, h3, h1, h4⟩
          · rintro ⟨h2, h3, h1, h4⟩; exact ⟨h1, h2, h3, h4⟩
        | _ => rfl
    | _ => cases arr <;> cases x.ev fr <;> first | rfl | (rename_i z; cases z <;> rfl)
  | _ => cases arr <;> cases x.ev fr <;> first | rfl | (rename_i z; cases z <;> rfl)
theorem r_idx {sz n : Nat} {agg : Bool} {x i : Opd} : stmU P base ⟨dst, hi, none, .op (.idx sz n agg x i)⟩ ⟨fr, rows⟩ κ = idxG sz n agg (x.ev fr) (i.ev fr) κ := by
  rw [r_op rfl]; simp only [opW, intW]
  cases i.ev fr with
  | d y =>
    cases y with
    | int k j =>
      cases x.ev fr with
      | agg cs =>
        cases agg with
        | true => rfl
        | false =>
          simp only [idxG, eq_iff_iff]
          constructor
          · rintro ⟨h1, h2, h3, rfl, h4⟩; exact ⟨h1, h2, h3, rfl, getA_of (by omega) h4⟩
          · rintro ⟨h1, h2, h3, rfl, h4⟩
            rw [← get_iff] at h4
            exact ⟨h1, h2, h3, rfl, h4.2⟩
      | _ => cases agg <;> rfl
    | _ => cases agg <;> cases x.ev fr <;> rfl
  | _ => cases agg <;> cases x.ev fr <;> rfl
theorem r_idxS {x i : Opd} : stmU P base ⟨dst, hi, none, .op (.idxS x i)⟩ ⟨fr, rows⟩ κ = idxSA (x.ev fr) (i.ev fr) κ := by
  rw [r_op rfl]; simp only [opW, intW]
  cases i.ev fr with
  | d y =>
    cases y with
    | int k j =>
      cases x.ev fr with
      | d z =>
        cases z with
        | str s =>
          simp only [idxSA, eq_iff_iff]
          constructor
          · rintro ⟨h1, h2, h4⟩; exact ⟨h1, h2, getA_of (by omega) h4⟩
          · rintro ⟨h1, h2, h4⟩
            rw [← get_iff] at h4
            exact ⟨h1, h2, h4.2⟩
        | _ => rfl
      | _ => rfl
    | _ => cases x.ev fr <;> first | rfl | (rename_i z; cases z <;> rfl)
  | _ => cases x.ev fr <;> first | rfl | (rename_i z; cases z <;> rfl)
theorem r_ext {x : Opd} {i : Nat} : stmU P base ⟨dst, hi, none, .op (.ext x i)⟩ ⟨fr, rows⟩ κ = extA i (x.ev fr) κ := by
  rw [r_op rfl]; simp only [opW]
  cases x.ev fr with
  | tup vs => exact get_iff
  | _ => rfl
theorem r_mkfn {f : Fn} {a b : List Opd} : stmU P base ⟨dst, hi, none, .op (.mkfn f a b)⟩ ⟨fr, rows⟩ κ = κ (.fn f (evs fr a) (evs fr b)) [] := by
  rw [r_op rfl, evs_map, evs_map]; rfl
theorem r_len {str : Bool} {x : Opd} : stmU P base ⟨dst, hi, none, .op (.len str x)⟩ ⟨fr, rows⟩ κ = lenA rows str (x.ev fr) κ := by
  rw [r_op rfl]; simp only [opW, ← liveP_iff]
  cases str <;> cases x.ev fr <;> first | rfl | (rename_i z; cases z <;> rfl)
theorem elems_iff {sz : Nat} {v : V} {f : List (List V) → Prop} : elemsW rows sz v f = elemsA rows sz v f := by
  cases v with
  | d x => cases x <;> rfl
  | osl s h n off len =>
    simp only [elemsW, elemsA, eq_iff_iff, liveA_iff]
    constructor
    · rintro ⟨h1, ⟨es, h2, h3⟩, h4⟩; exact ⟨h1, es, h2, h3, h4 es h2⟩
    · rintro ⟨h1, es, h2, h3, h4⟩
      refine ⟨h1, ⟨es, h2, h3⟩, fun es' h5 => ?_⟩
      rw [h2] at h5; injection h5 with h5; injection h5 with _ h5; subst h5
      exact h4
  | _ => rfl
theorem r_b2s {x : Opd} : stmU P base ⟨dst, hi, none, .op (.b2s x)⟩ ⟨fr, rows⟩ κ = b2sA rows (x.ev fr) κ := by
  rw [r_op rfl]; simp only [opW, elems_iff]; rfl
theorem r_append {sz bytes : Nat} {s x : Opd} : stmU P base ⟨dst, hi, none, .op (.append sz bytes s x)⟩ ⟨fr, rows⟩ κ =
    (rowAt rows (base + hi) = .un ∧ elemsA rows sz (x.ev fr) (appA rows sz bytes (base + hi) (s.ev fr) κ)) := by
  rw [r_opM rfl]; simp only [opW, elems_iff]
  congr 2
  funext xs
  cases s.ev fr with
  | d y => cases y <;> rfl
  | osl s h n off len =>
    simp only [appA, eq_iff_iff, liveA_iff, appR]
    constructor
    · rintro ⟨h1, h2, h3, ⟨es, h4, h5⟩, h6, h7⟩; exact ⟨h1, h2, h3, es, h4, h5, h6, h7 es h4⟩
    · rintro ⟨h1, h2, h3, es, h4, h5, h6, h7⟩
      refine ⟨h1, h2, h3, ⟨es, h4, h5⟩, h6, fun es' h8 => ?_⟩
      rw [h4] at h8; injection h8 with h8; injection h8 with _ h8; subst h8
      exact h7
  | _ => rfl
theorem r_copy {sz : Nat} {d s : Opd} : stmU P base ⟨dst, hi, none, .op (.copy sz d s)⟩ ⟨fr, rows⟩ κ = elemsA rows sz (s.ev fr) (copA rows sz (d.ev fr) κ) := by
  rw [r_op rfl]; simp only [opW, elems_iff]
  congr 1
  funext xs
  cases d.ev fr with
  | d y => cases y <;> rfl
  | osl s h n off len =>
    simp only [copA, eq_iff_iff, liveA_iff, copR]
    constructor
    · rintro ⟨h1, ⟨es, h4, h5⟩, h7⟩; exact ⟨h1, es, h4, h5, h7 es h4⟩
    · rintro ⟨h1, es, h4, h5, h7⟩
      refine ⟨h1, ⟨es, h4, h5⟩, fun es' h8 => ?_⟩
      rw [h4] at h8; injection h8 with h8; injection h8 with _ h8; subst h8
      exact h7
  | _ => rfl
theorem r_clr {sz : Nat} {z : List D} {x : Opd} : stmU P base ⟨dst, hi, none, .op (.clr sz z x)⟩ ⟨fr, rows⟩ κ = clrA rows sz z (x.ev fr) κ := by
  rw [r_op rfl]; simp only [opW]
  cases x.ev fr with
  | osl s h n off len =>
    simp only [clrA, eq_iff_iff, liveA_iff, clrR]
    constructor
    · rintro ⟨h1, ⟨es, h4, h5⟩, h6, h7⟩; exact ⟨h1, h6, es, h4, h5, h7 es h4⟩
    · rintro ⟨h1, h6, es, h4, h5, h7⟩
      refine ⟨h1, ⟨es, h4, h5⟩, h6, fun es' h8 => ?_⟩
      rw [h4] at h8; injection h8 with h8; injection h8 with _ h8; subst h8
      exact h7
  | _ => rfl
theorem r_mn {x y : Opd} : stmU P base ⟨dst, hi, none, .op (.mn x y)⟩ ⟨fr, rows⟩ κ = mnA (x.ev fr) (y.ev fr) κ := by
  rw [r_op rfl]; simp only [opW]
  split
  · rename_i h1 h2; rw [h1, h2]; rfl
  · rename_i h; rw [mnA]; exact h
def rngA (hf : Nat) : V → KV → Prop
  | .d (.str s), κ => κ (.optr 0 hf 0 0 0) [(hf, .obj (.it s 0))]
  | _, _ => False
/-- one more rune, or the end -/
def nxtC (b : Bool) (h : Nat) (s : List UInt8) (pos : Nat) (κ : KV) : Prop :=
  if b = true then κ (.tup [.d (.bool true), .d (.int .i64 pos), .d (.int .i32 (runeAt s pos).1)]) [(h, .obj (.it s (pos + (runeAt s pos).2)))] else κ (.tup [.d (.bool false)]) []
def nxtR (h : Nat) : RowS → KV → Prop
  | .obj (.it s pos), κ => nxtC (decide (pos < s.length)) h s pos κ
  | _, _ => False
def nxtA (rows : Rows) : V → KV → Prop
  | .optr 0 h 0 0 0, κ => nxtR h (rowAt rows h) κ
  | _, _ => False
def lkpK : Bool → D → Bool → KV → Prop
  | true, v, b, κ => κ (.tup [.d v, .d (.bool b)]) []
  | false, v, _, κ => κ (.d v) []
def lkpR (okf : Bool) (z : D) : RowS → List UInt8 → KV → Prop
  | .obj (.mp es), s, κ => lkpK okf (mpGet z es s) (mpHas es s) κ
  | _, _, _ => False
def lkpA (rows : Rows) (okf : Bool) (z : D) : V → V → KV → Prop
  | .optr 0 h 0 1 0, .d (.str s), κ => isSc z = true ∧ lkpR okf z (rowAt rows h) s κ
  | _, _, _ => False
def updR (h : Nat) : RowS → List UInt8 → D → KV → Prop
  | .obj (.mp es), s, x, κ => κ .any [(h, .obj (.mp (mpPut es s x)))]
  | _, _, _, _ => False
def updA (rows : Rows) : V → V → V → KV → Prop
  | .optr 0 h 0 1 0, .d (.str s), .d x, κ => isSc x = true ∧ updR h (rowAt rows h) s x κ
  | _, _, _, _ => False
theorem nxt_t {h pos : Nat} {s : List UInt8} : nxtC true h s pos κ = κ (.tup [.d (.bool true), .d (.int .i64 pos), .d (.int .i32 (runeAt s pos).1)]) [(h, .obj (.it s (pos + (runeAt s pos).2)))] := rfl
theorem nxt_f {h pos : Nat} {s : List UInt8} : nxtC false h s pos κ = κ (.tup [.d (.bool false)]) [] := rfl
theorem nxt_split {b : Bool} {h pos : Nat} {s : List UInt8} (ht : b = true → nxtC true h s pos κ) (hf : b = false → nxtC false h s pos κ) : nxtC b h s pos κ := by
  cases b
  · exact hf rfl
  · exact ht rfl
def idxBA : V → V → KV → Prop
  | .d (.str s), .d (.int .u8 c), κ => κ (.d (.int .i64 (Lib.indexByte s c.toNat.toUInt8))) []
  | _, _, _ => False
theorem r_idxB {x y : Opd} : stmU P base ⟨dst, hi, none, .op (.idxB x y)⟩ ⟨fr, rows⟩ κ = idxBA (x.ev fr) (y.ev fr) κ := by
  rw [r_op rfl]; simp only [opW]
  split
  · rename_i h1 h2; rw [h1, h2]; rfl
  · rename_i h; rw [idxBA]; exact h
theorem r_bad : stmU P base ⟨dst, hi, none, .op .bad⟩ ⟨fr, rows⟩ κ = False := r_op rfl
theorem r_rng {x : Opd} : stmU P base ⟨dst, hi, none, .op (.rng x)⟩ ⟨fr, rows⟩ κ = (rowAt rows (base + hi) = .un ∧ rngA (base + hi) (x.ev fr) κ) := by
  rw [r_opM rfl]; simp only [opW]
  congr 1
  cases x.ev fr with
  | d y => cases y <;> rfl
  | _ => rfl
theorem r_mkmap : stmU P base ⟨dst, hi, none, .op .mkmap⟩ ⟨fr, rows⟩ κ = (rowAt rows (base + hi) = .un ∧ κ (.optr 0 (base + hi) 0 1 0) [(base + hi, .obj (.mp []))]) := r_opM rfl
theorem r_nxt {x : Opd} : stmU P base ⟨dst, hi, none, .op (.nxt x)⟩ ⟨fr, rows⟩ κ = nxtA rows (x.ev fr) κ := by
  rw [r_op rfl]; simp only [opW]
  split
  · rename_i h e
    rw [e]
    simp only [nxtA, rowAt_eq, nxtW]
    cases rows[h]? with
    | none => rfl
    | some r => cases r with
      | obj o => cases o with
        | it s pos =>
          by_cases hp : pos < s.length <;> simp [nxtR, nxtC, hp]
        | mp es => rfl
        | loop l L => rfl
      | _ => rfl
  · rename_i hh
    simp only [eq_iff_iff, false_iff]
    unfold nxtA
    split
    · rename_i e; exact (hh _ e).elim
    · exact id
theorem r_lkp {okf : Bool} {z : D} {m k : Opd} : stmU P base ⟨dst, hi, none, .op (.lkp okf z m k)⟩ ⟨fr, rows⟩ κ = lkpA rows okf z (m.ev fr) (k.ev fr) κ := by
  rw [r_op rfl]; simp only [opW]
  split
  · rename_i h s e1 e2
    rw [e1, e2]
    simp only [lkpA, rowAt_eq, lkpW]
    congr 1
    cases rows[h]? with
    | none => rfl
    | some r => cases r with
      | obj o => cases o with
        | it s pos => rfl
        | mp es => cases okf <;> rfl
        | loop l L => rfl
      | _ => rfl
  · rename_i hh
    simp only [eq_iff_iff, false_iff]
    unfold lkpA
    split
    · rename_i e1 e2; exact (hh _ _ e1 e2).elim
    · exact id
theorem r_upd {m k v : Opd} : stmU P base ⟨dst, hi, none, .op (.upd m k v)⟩ ⟨fr, rows⟩ κ = updA rows (m.ev fr) (k.ev fr) (v.ev fr) κ := by
  rw [r_op rfl]; simp only [opW]
  split
  · rename_i h s x e1 e2 e3
    rw [e1, e2, e3]
    simp only [updA, rowAt_eq, updW]
    congr 1
    cases rows[h]? with
    | none => rfl
    | some r => cases r with
      | obj o => cases o <;> rfl
      | _ => rfl
  · rename_i hh
    simp only [eq_iff_iff, false_iff]
    unfold updA
    split
    · rename_i e1 e2 e3; exact (hh _ _ _ e1 e2 e3).elim
    · exact id
theorem r_mx {x y : Opd} : stmU P base ⟨dst, hi, none, .op (.mx x y)⟩ ⟨fr, rows⟩ κ = mxA (x.ev fr) (y.ev fr) κ := by
  rw [r_op rfl]; simp only [opW]
  split
  · rename_i h1 h2; rw [h1, h2]; rfl
  · rename_i h; rw [mxA]; exact h
theorem i_nil {fl : List Bool} {S : St} : runI P base fl [] K S = K S := by cases fl <;> rfl
theorem i_t {fl : List Bool} {f : Opd} {as : List Opd} : runI P base (true :: fl) (⟨dst, hi, none, .call f as⟩ :: l) K ⟨fr, rows⟩ = inlA P (f.ev fr) (evs fr as) rows (inlK P base fl l K dst fr) := by
  rw [evs_map]; exact propext ⟨fun h => h.2, fun h => ⟨trivial, h⟩⟩
theorem i_g {fl : List Bool} {t : Nat} {w : Bool} {f : Opd} {as : List Opd} : runI P base (true :: fl) (⟨dst, hi, some (t, w), .call f as⟩ :: l) K ⟨fr, rows⟩ = (nth fr t = .d (.bool w) ∧ inlA P (f.ev fr) (evs fr as) rows (inlK P base fl l K dst fr)) := by
  rw [evs_map]; rfl
theorem i_f {fl : List Bool} {g : Option (Nat × Bool)} {act : AAct} : runI P base (false :: fl) (⟨dst, hi, g, act⟩ :: l) K ⟨fr, rows⟩ = stmU P base ⟨dst, hi, g, act⟩ ⟨fr, rows⟩ (runIK P base fl l K dst fr rows) := rfl
theorem i_e {g : Option (Nat × Bool)} {act : AAct} : runI P base [] (⟨dst, hi, g, act⟩ :: l) K ⟨fr, rows⟩ = stmU P base ⟨dst, hi, g, act⟩ ⟨fr, rows⟩ (runIK P base [] l K dst fr rows) := rfl
theorem i_k {fl : List Bool} {v : V} {u : List (Nat × RowS)} : runIK P base fl l K dst fr rows v u = runI P base fl l K ⟨putV fr dst v, setRows rows u⟩ := rfl
theorem i_j {fl : List Bool} {v : V} {rows' : Rows} : inlK P base fl l K dst fr v rows' = runI P base fl l K ⟨putV fr dst v, rows'⟩ := rfl
theorem r_call {f : Opd} {as : List Opd} : stmU P base ⟨dst, hi, none, .call f as⟩ ⟨fr, rows⟩ κ = callA P (f.ev fr) (evs fr as) rows κ := by
  rw [evs_map]; rfl


/-- statements that change no row -/
def quiet (s : AStm) : Bool :=
  match s.act with
  | .call _ _ => true
  | .op o => match o with
    | .rng _ | .nxt _ | .mkmap | .upd _ _ _ | .s2b _ | .alloc _ | .box _ _ | .buildSl _ _ _ _ | .store _ _ _ | .mksl _ _ _ _ _ | .append _ _ _ _ | .copy _ _ _ | .clr _ _ _ => false
    | _ => true

theorem dm_pair {F : KV → Prop} (h : DM fun K : V × List (Nat × RowS) → Prop => F fun v u => K (v, u)) {κ κ' : KV} (hk : ∀ v u, κ v u → κ' v u) (hf : F κ) : F κ' :=
  h.mono (fun p => κ p.1 p.2) (fun p => κ' p.1 p.2) (fun p => hk p.1 p.2) hf

end

section
variable {P : Program} {base : Nat} {κ κ' : KV} {fr : List V} {rows : Rows}

theorem quiet_op {o : AOp} {ev : Opd → V} {hf : Nat} (hq : quiet ⟨none, 0, none, .op o⟩ = true) (hk : ∀ v, κ v [] → κ' v []) (h : opW o ev rows hf κ) : opW o ev rows hf κ' := by
  cases o with
  | mov x => exact hk _ h
  | pick c a b => simp only [opW] at h ⊢; split <;> rename_i hh <;> simp_all
  | nilck x =>
    simp only [opW] at h ⊢
    split <;> rename_i hh <;> simp only [hh] at h
    · exact hk _ h
    · exact ⟨h.1, hk _ h.2⟩
    · exact hk _ h
  | bin op x y => exact (dm_binW _ _ _).mono _ _ (fun v => hk _) h
  | eqB neg x y => simp only [opW] at h ⊢; split <;> simp_all
  | eqS neg ks x y =>
    simp only [opW] at h ⊢
    split
    · rename_i h1 h2
      simp only [h1, h2] at h
      unfold eqR at h ⊢
      split <;> simp_all
    · rename_i hh
      split at h
      · rename_i h1 h2; exact (hh _ _ h1 h2).elim
      · exact h
  | isNil neg x y => simp only [opW] at h ⊢; split <;> simp_all
  | un op x => exact (dm_unW _ _).mono _ _ (fun v => hk _) h
  | conv k x => simp only [opW] at h ⊢; split <;> simp_all
  | same x => simp only [opW] at h ⊢; split <;> simp_all
  | b2s x => exact ⟨h.1, (dm_elemsW _ _ _).mono _ _ (fun v hv => ⟨hv.1, hk _ hv.2⟩) h.2⟩
  | build z ps => exact (dm_partsW _ _ _).mono _ _ (fun v => hk _) h
  | load agg sz a =>
    simp only [opW] at h ⊢
    split <;> rename_i hh <;> simp only [hh] at h
    · cases agg with
      | true => exact ⟨h.1, hk _ h.2⟩
      | false => exact ⟨h.1, fun x hx => hk _ (h.2 x hx)⟩
    · refine ⟨h.1, h.2.1, h.2.2.1, fun es e h1 h2 => ?_⟩
      have h3 := h.2.2.2 es e h1 h2
      cases agg with
      | true => exact hk _ h3
      | false => exact ⟨h3.1, h3.2.1, fun x hx => hk _ (h3.2.2 x hx)⟩
  | slice sz x lo hi =>
    simp only [opW] at h ⊢
    split <;> rename_i hh <;> simp only [hh] at h
    · exact ⟨h.1, (dm_bndW _ _ _).mono _ _ (fun l => (dm_bndW _ _ _).mono _ _ fun h hh => ⟨hh.1, hh.2.1, hk _ hh.2.2⟩) h.2⟩
    · exact ⟨h.1, h.2.1, (dm_bndW _ _ _).mono _ _ (fun l => (dm_bndW _ _ _).mono _ _ fun h hh => ⟨hh.1, hh.2.1, hh.2.2.1, hk _ hh.2.2.2⟩) h.2.2⟩
    · exact ⟨h.1, (dm_bndW _ _ _).mono _ _ (fun l => (dm_bndW _ _ _).mono _ _ fun h hh => ⟨hh.1, hh.2.1, hh.2.2.1, hk _ hh.2.2.2⟩) h.2⟩
    · exact ⟨h.1, h.2.1, h.2.2.1, (dm_bndW _ _ _).mono _ _ (fun l => (dm_bndW _ _ _).mono _ _ fun h hh => ⟨hh.1, hh.2.1, hh.2.2.1, hk _ hh.2.2.2⟩) h.2.2.2⟩
  | fldA off x =>
    simp only [opW] at h ⊢
    split <;> rename_i hh <;> simp only [hh] at h
    · exact hk _ h
    · exact ⟨h.1, hk _ h.2⟩
  | fld off sz agg x =>
    simp only [opW] at h ⊢
    split <;> rename_i hh <;> simp only [hh] at h
    · cases agg with
      | true => exact ⟨h.1, hk _ h.2⟩
      | false => exact ⟨h.1, fun x hx => hk _ (h.2 x hx)⟩
  | idxA sz arr x i =>
    simp only [opW] at h ⊢
    refine (dm_intW _).mono _ _ (fun j h => ?_) h
    generalize ev x = xx at h ⊢
    cases arr with
    | none =>
      cases xx with
      | d y =>
        cases y with
        | sl s es => exact ⟨h.1, h.2.1, h.2.2.1, fun e he => hk _ (h.2.2.2 e he)⟩
        | _ => exact h.elim
      | osl s hh n off len => exact ⟨h.1, h.2.1, h.2.2.1, h.2.2.2.1, hk _ h.2.2.2.2⟩
      | _ => exact h.elim
    | some m =>
      cases xx with
      | d y =>
        cases y with
        | ptr cs => exact ⟨h.1, h.2.1, hk _ h.2.2⟩
        | _ => exact h.elim
      | optr s hh n k o => exact ⟨h.1, h.2.1, h.2.2.1, hk _ h.2.2.2⟩
      | _ => exact h.elim
  | idx sz n agg x i =>
    simp only [opW] at h ⊢
    refine (dm_intW _).mono _ _ (fun j h => ?_) h
    split <;> rename_i hh <;> simp only [hh] at h
    · refine ⟨h.1, h.2.1, h.2.2.1, ?_⟩
      have h := h.2.2.2
      cases agg with
      | true => exact hk _ h
      | false => exact ⟨h.1, fun x hx => hk _ (h.2 x hx)⟩
  | idxS x i =>
    simp only [opW] at h ⊢
    refine (dm_intW _).mono _ _ (fun j h => ?_) h
    split <;> rename_i hh <;> simp only [hh] at h
    · exact ⟨h.1, h.2.1, fun x hx => hk _ (h.2.2 x hx)⟩
  | ext x i =>
    simp only [opW] at h ⊢
    split <;> rename_i hh <;> simp only [hh] at h
    · exact ⟨h.1, fun x hx => hk _ (h.2 x hx)⟩
  | mkfn f a b => exact hk _ h
  | len str x =>
    simp only [opW] at h ⊢
    revert h
    split
    · exact hk _
    · exact hk _
    · exact hk _
    · exact fun h => ⟨h.1, hk _ h.2⟩
    · exact fun h => h
  | mn x y => simp only [opW] at h ⊢; split <;> simp_all
  | mx x y => simp only [opW] at h ⊢; split <;> simp_all
  | bad => exact (h : False).elim
  | idxB x y => simp only [opW] at h ⊢; split <;> simp_all
  | lkp ok z m k =>
    simp only [opW] at h ⊢
    split
    · rename_i h1 h2
      simp only [h1, h2] at h
      refine ⟨h.1, ?_⟩
      have h := h.2
      unfold lkpW at h ⊢
      split <;> rename_i hh <;> simp_all
    · rename_i hh
      split at h
      · rename_i h3 h4; exact (hh _ _ h3 h4).elim
      · exact h
  | _ => simp [quiet] at hq

theorem quiet_stm {s : AStm} {S : St} (hq : quiet s = true) (hk : ∀ v u, κ v u → κ' v u) (h : stmU P base s S κ) : stmU P base s S κ' := by
  have hact : actW P base s S κ → actW P base s S κ' := by
    unfold actW
    cases ha : s.act with
    | op o =>
      rintro ⟨h1, h2⟩
      exact ⟨h1, quiet_op (by simpa only [quiet, ha] using hq) (fun v => hk v []) h2⟩
    | call f as =>
      intro h
      simp only [callW] at h ⊢
      generalize f.ev S.fr = g at h ⊢
      cases g with
      | fn f a b =>
        cases f <;> first
          | (obtain ⟨v, u, h1, h2⟩ := h; exact ⟨v, u, h1, hk _ _ h2⟩)
          | exact h.elim
      | _ => exact h.elim
  cases hg : s.guard with
  | none =>
    simp only [stmU, hg] at h ⊢
    exact hact h
  | some p =>
    obtain ⟨t, w⟩ := p
    simp only [stmU, hg] at h ⊢
    generalize nth S.fr t = g at h ⊢
    cases g with
    | d x =>
      cases x with
      | bool b => exact ⟨fun hb => hact (h.1 hb), fun hb => hk _ _ (h.2 hb)⟩
      | _ => exact h.elim
    | tup vs =>
      cases vs with
      | nil => exact hk _ _ h
      | cons a l => exact h.elim
    | _ => exact h.elim

theorem runD_quiet : ∀ (l : List (AStm × List Nat)) (acc : List (List Nat × List Nat)) (K : St → Prop) (S : St), (∀ p ∈ acc, p.2 = []) → l.all (fun p => quiet p.1) = true →
    runQ P base (l.map (·.1)) K S → runD P base l acc K S := by
  intro l
  induction l with
  | nil => intro acc K S _ _ h; exact h
  | cons x l ih =>
    intro acc K S hacc hq h
    obtain ⟨s, pre⟩ := x
    simp only [List.all_cons, Bool.and_eq_true] at hq
    refine quiet_stm hq.1 (fun v u h => ?_) h
    obtain ⟨rfl, h⟩ := h
    refine ⟨?_, by simp, ih _ _ _ (fun p hp => ?_) hq.2 h⟩
    · simp only [compat, List.map_nil, List.all_eq_true]
      intro p hp
      have := hacc p.1 (List.fst_mem_of_mem_zipIdx hp)
      simp [disj, this]
    · rcases List.mem_append.1 hp with hp | hp
      · exact hacc p hp
      · simp at hp; rw [hp]

end

section
variable {P : Program} {b0 : Nat} {Q : AX → St → Prop} {fr : List V} {rows : Rows}

/-- a ghost put at a place: 0 and 1 for the parts of a seq or a cond, 2 for what a block or a loop holds -/
def AC.at (f : AC → AC) : List Nat → AC → AC
  | 0 :: p, .seq a b => .seq (a.at f p) b
  | 1 :: p, .seq a b => .seq a (b.at f p)
  | 0 :: p, .cond c a b => .cond c (a.at f p) b
  | 1 :: p, .cond c a b => .cond c a (b.at f p)
  | 2 :: p, .block i a => .block i (a.at f p)
  | 2 :: p, .loop a => .loop (a.at f p)
  | 2 :: p, .scope a => .scope (a.at f p)
  | 0 :: p, .rng g ps a b => .rng g ps (a.at f p) b
  | 1 :: p, .rng g ps a b => .rng g ps a (b.at f p)
  | _, a => f a
/-- a part of a code -/
def AC.sub : List Nat → AC → AC
  | 0 :: p, .seq a _ => a.sub p
  | 1 :: p, .seq _ b => b.sub p
  | 0 :: p, .cond _ a _ => a.sub p
  | 1 :: p, .cond _ _ b => b.sub p
  | 2 :: p, .block _ a => a.sub p
  | 2 :: p, .loop a => a.sub p
  | 2 :: p, .scope a => a.sub p
  | 0 :: p, .rng _ _ a _ => a.sub p
  | 1 :: p, .rng _ _ _ b => b.sub p
  | _, a => a
/-- calls that are looked into -/
def AC.look (fl : List Bool) : AC → AC
  | .reg m l => .regX m fl l
  | a => a
theorem c_seq {a b : AC} {S : St} : wpC P b0 (.seq a b) Q S = wpC P b0 a (seqQ P b0 b Q) S := rfl
theorem seq_n {b : AC} {S : St} : seqQ P b0 b Q .normal S = wpC P b0 b Q S := rfl
theorem seq_e {b : AC} {S : St} {i : Nat} : seqQ P b0 b Q (.exit i) S = Q (.exit i) S := rfl
theorem seq_r {b : AC} {S : St} : seqQ P b0 b Q .ret S = Q .ret S := rfl
theorem c_reg0 {l : List AStm} : wpC P b0 (.reg 0 l) Q ⟨fr, rows⟩ = runW P rows.length l (Q .normal) ⟨fr, rows⟩ := by simp [wpC, St.grow]
theorem c_reg {m : Nat} {l : List AStm} : wpC P b0 (.reg m l) Q ⟨fr, rows⟩ = runW P rows.length l (Q .normal) ⟨fr, rows ++ List.replicate m .un⟩ := rfl
theorem c_regD {m : Nat} {l : List (AStm × List Nat)} : wpC P b0 (.regD m l) Q ⟨fr, rows⟩ = runD P rows.length l [] (Q .normal) ⟨fr, rows ++ List.replicate m .un⟩ := rfl
/-- a region that may run in any order, but changes no row -/
theorem c_quiet {l : List (AStm × List Nat)} (hq : l.all (fun p => quiet p.1) = true) (h : runQ P rows.length (l.map (·.1)) (Q .normal) ⟨fr, rows⟩) : wpC P b0 (.regD 0 l) Q ⟨fr, rows⟩ := by
  rw [c_regD]
  simpa using runD_quiet l [] (Q .normal) ⟨fr, rows⟩ (by simp) hq h
theorem c_regX {m : Nat} {fl : List Bool} {l : List AStm} : wpC P b0 (.regX m fl l) Q ⟨fr, rows⟩ = runI P rows.length fl l (Q .normal) ⟨fr, rows ++ List.replicate m .un⟩ := rfl
theorem ri_r {t : Nat} {κ : V → Rows → Prop} : retI [.tmp t] κ .ret ⟨fr, rows⟩ = κ (nth fr t) rows := rfl
theorem ri_n {t : Nat} {κ : V → Rows → Prop} : retI [.tmp t] κ .normal ⟨fr, rows⟩ = κ (nth fr t) rows := rfl
/-- a call, looked into -/
theorem call_i {f : FuncId} {first cap args : List V} {κ : V → Rows → Prop} (h : InlP P f (first ++ args ++ cap) rows κ) : inlA P (.fn (.func f) first cap) args rows κ := h
theorem c_draw {m : Nat} {l : List (AStm × List Nat)} (h : runD P rows.length l [] (Q .normal) ⟨fr, rows ++ List.replicate m .un⟩) : wpC P b0 (.regD m l) Q ⟨fr, rows⟩ := h
theorem c_cond {c : Opd} {a b : AC} : wpC P b0 (.cond c a b) Q ⟨fr, rows⟩ = condA (c.ev fr) P b0 a b Q ⟨fr, rows⟩ := rfl
theorem cond_t {a b : AC} {S : St} : condA (.d (.bool true)) P b0 a b Q S = wpC P b0 a Q S := by simp [condA, condW]
theorem cond_u {a b : AC} {S : St} : condA (.d .boolU) P b0 a b Q S = (wpC P b0 a Q S ∧ wpC P b0 b Q S) := rfl
theorem cond_f {a b : AC} {S : St} : condA (.d (.bool false)) P b0 a b Q S = wpC P b0 b Q S := by simp [condA, condW]
theorem c_block {id : Nat} {a : AC} {S : St} : wpC P b0 (.block id a) Q S = wpC P b0 a (blockQ id Q) S := rfl
theorem block_n {id : Nat} {S : St} : blockQ id Q .normal S = Q .normal S := rfl
theorem block_r {id : Nat} {S : St} : blockQ id Q .ret S = Q .ret S := rfl
theorem block_e {id : Nat} {S : St} : blockQ id Q (.exit id) S = Q .normal S := by simp [blockQ]
theorem block_o {id i : Nat} {S : St} (h : (i == id) = false) : blockQ id Q (.exit i) S = Q (.exit i) S := by
  have : i ≠ id := by simpa using h
  simp [blockQ, this]
theorem c_scope {a : AC} {S : St} : wpC P b0 (.scope a) Q S = wpC P b0 a Q S := rfl
theorem c_label {S : St} : wpC P b0 .label Q S = Q .normal S := rfl
theorem c_exit {id : Nat} {S : St} : wpC P b0 (.exit id) Q S = Q (.exit id) S := rfl
theorem c_ret {S : St} : wpC P b0 .ret Q S = Q .ret S := rfl
theorem c_skip {S : St} : wpC P b0 .skip Q S = Q .normal S := rfl
theorem cond_split {b : Bool} {x y : AC} {S : St} (ht : b = true → wpC P b0 x Q S) (hf : b = false → wpC P b0 y Q S) : condA (.d (.bool b)) P b0 x y Q S := ⟨ht, hf⟩
theorem guard_split {b : Bool} {base : Nat} {w : Bool} {s : AStm} {S : St} {κ : KV} (ht : b = w → stmU P base s S κ) (hf : b ≠ w → κ (.tup []) []) : guardA (.d (.bool b)) w P base s S κ := ⟨ht, hf⟩

def loopQ (P : Program) (b0 : Nat) (a : AC) (Q : AX → St → Prop) (J : Nat → St → Prop) (n : Nat) : AX → St → Prop := fun e S' =>
  match e with
  | .normal => ∃ n' S'', n' < n ∧ Weak b0 S' S'' ∧ J n' S''
  | .exit i => Q (.exit i) S'
  | .ret => Q .ret S'
theorem loop_e {a : AC} {J : Nat → St → Prop} {n i : Nat} {S : St} : loopQ P b0 a Q J n (.exit i) S = Q (.exit i) S := rfl
theorem loop_r {a : AC} {J : Nat → St → Prop} {n : Nat} {S : St} : loopQ P b0 a Q J n .ret S = Q .ret S := rfl
theorem loop_in {a : AC} {S : St} (J : Nat → St → Prop) (n : Nat) {S' : St} (hw : Weak b0 S S') (hi : J n S') (hr : ∀ n S, J n S → wpC P b0 a (loopQ P b0 a Q J n) S) : wpC P b0 (.loop a) Q S :=
  ⟨J, n, S', hw, hi, hr⟩
theorem loop_n {a : AC} {J : Nat → St → Prop} {n : Nat} {S : St} (n' : Nat) (hn : n' < n) {S' : St} (hw : Weak b0 S S') (hi : J n' S') : loopQ P b0 a Q J n .normal S := ⟨n', S', hn, hw, hi⟩

/-- a call whose contract is known -/
theorem call_p {f : FuncId} {first cap args : List V} {v : V} {κ : KV} (hn : (first ++ args ++ cap).all noH = true) (hc : CallP P f (first ++ args ++ cap) v) (h : κ v []) : callA P (.fn (.func f) first cap) args rows κ :=
  ⟨v, [], .inl ⟨.inl ⟨fun x hx => List.all_eq_true.1 hn x hx, hc⟩, rfl⟩, h⟩
theorem call_s {f : FuncId} {first cap args : List V} {v : V} {κ : KV} (hn : ∀ x ∈ first ++ args ++ cap, snapOk rows x) (hs : scal v = true) (hc : CallP P f ((first ++ args ++ cap).map (snapV rows)) v) (h : κ v []) : callA P (.fn (.func f) first cap) args rows κ :=
  ⟨v, [], .inl ⟨.inr ⟨hn, hs, hc⟩, rfl⟩, h⟩
/-- a call that takes the rows of its arguments -/
theorem call_k {f : FuncId} {first cap args : List V} {v : V} {κ : KV} (hn : ∀ x ∈ first ++ args ++ cap, snapOk rows x) (hc : CallP P f ((first ++ args ++ cap).map (snapV rows)) v) (h : κ v (kills (first ++ args ++ cap))) : callA P (.fn (.func f) first cap) args rows κ :=
  ⟨v, _, .inr (.inl ⟨⟨hn, hc⟩, rfl⟩), h⟩
/-- a call that changes one row -/
theorem call_m (h0 : Nat) {f : FuncId} {first cap args vals0 : List V} {v0 : V} {sz : Nat} {es es' : List (List V)} {κ : KV} (hv : first ++ args ++ cap = vals0.map (renH h0)) (hz : vals0.all hZ = true) (hin : h0 ∈ (first ++ args ++ cap).flatMap hAll)
    (hrow : rows[h0]? = some (.live sz es)) (hd : dataE es) (hd' : dataE es') (hl : es'.length = es.length) (hc : CallM P f vals0 sz es v0 es') (h : κ (renH h0 v0) [(h0, .live sz es')]) : callA P (.fn (.func f) first cap) args rows κ :=
  ⟨_, _, .inr (.inr ⟨h0, sz, es, es', vals0, v0, hrow, hd, hd', hl, hv, fun x hx => List.all_eq_true.1 hz x hx, hin, hc, rfl, rfl⟩), h⟩

theorem inl_of' {f : FuncId} {fn : Func} {ac : AC} {vals : List V} {K : V → Rows → Prop} {rs : List RS} {n : Nat} (hf : P.funcs[f]? = some fn) (hname : (fn.name == "runtime.NumGoroutine") = false)
    (hr : fn.results.toList.mapM (compRS P) = some rs) (hn : fn.ntmps = n) (hc : fn.body.bind (compC P) = some ac.erase)
    (hw : wpC P rows.length ac (retI rs K) ⟨vals ++ List.replicate (n - vals.length) (.tup []), rows⟩) : InlP P f vals rows K := by
  obtain ⟨code, hb, hc⟩ := Option.bind_eq_some_iff.1 hc
  exact inl_of hf hname hb hr n hn hc hw
theorem retM_r {rs : List RS} {v : V} {sz : Nat} {es' : List (List V)} {S : St} (S' : St) (hw : Weak 1 S S') (hr : S'.rows = [.live sz es']) (h : retW rs S' fun vs => tupOf vs = v) : retM rs v sz es' .ret S := ⟨S', hw, hr, h⟩

end

mutual
def retA : List RS → List V → List V → Rows → V → Prop
  | [], acc, _, rows, v => Snap rows (tupOf acc) v
  | .tmp t :: l, acc, fr, rows, v => retA l (acc ++ [nth fr t]) fr rows v
  | .cell a agg sz :: l, acc, fr, rows, v => loadA rows agg sz (nth fr a) (retK l acc fr rows v)
def retK : List RS → List V → List V → Rows → V → V → List (Nat × RowS) → Prop
  | l, acc, fr, rows, v, x, _ => retA l (acc ++ [x]) fr rows v
end

theorem retA_eq (P : Program) (fr : List V) (rows : Rows) (v : V) : ∀ (l : List RS) (acc : List V), retW l ⟨fr, rows⟩ (fun vs => Snap rows (tupOf (acc ++ vs)) v) = retA l acc fr rows v := by
  intro l
  induction l with
  | nil => intro acc; simp [retW, retA]
  | cons r l ih =>
    intro acc
    cases r with
    | tmp t =>
      simp only [retW, retA]
      rw [← ih]
      simp
    | cell a agg sz =>
      simp only [retW, retA]
      have := (r_op (P := P) (base := 0) (hi := 0) (fr := fr) (rows := rows) (dst := none) (κ := retK l acc fr rows v) (o := .load agg sz (.t a)) rfl).symm.trans r_load
      rw [Opd.ev] at this
      rw [← this]
      congr 1
      funext x u
      simp only [retK]
      rw [← ih]
      simp

theorem ret_r {rs : List RS} {v : V} {fr : List V} {rows : Rows} : retQ rs v .ret ⟨fr, rows⟩ = retA rs [] fr rows v := by
  rw [← retA_eq default]; rfl
theorem ret_n {rs : List RS} {v : V} {fr : List V} {rows : Rows} : retQ rs v .normal ⟨fr, rows⟩ = retA rs [] fr rows v := by
  rw [← retA_eq default]; rfl

section
variable {rows : Rows}
theorem sn_any {v : V} : Snap rows v .any = True := eq_true (.any v)
theorem sn_int {k k' : IntKind} {a b : Int} : Snap rows (.d (.int k a)) (.d (.int k' b)) = (k = k' ∧ a = b) := by
  rw [eq_iff_iff]
  constructor
  · intro h; cases h; exact ⟨rfl, rfl⟩
  · rintro ⟨rfl, rfl⟩; exact .d _
theorem sn_bool {a b : Bool} : Snap rows (.d (.bool a)) (.d (.bool b)) = (a = b) := by
  rw [eq_iff_iff]
  constructor
  · intro h; cases h; rfl
  · rintro rfl; exact .d _
theorem sn_str {a b : List UInt8} : Snap rows (.d (.str a)) (.d (.str b)) = (a = b) := by
  rw [eq_iff_iff]
  constructor
  · intro h; cases h; rfl
  · rintro rfl; exact .d _
theorem sn_sl {n m : Nat} {a b : List (List D)} (hn : n = m) (h : a = b) : Snap rows (.d (.sl n a)) (.d (.sl m b)) := by subst hn h; exact .d _
theorem sn_nils {n : Nat} : Snap rows (.d .nils) (.d (.sl n [])) = True := eq_true (.nils n)

def snapL (rows : Rows) : List V → List V → Prop
  | [], [] => True
  | a :: l, b :: m => Snap rows a b ∧ snapL rows l m
  | [], _ :: _ => False
  | _ :: _, [] => False

theorem snapL_spec {a b : List V} (h : snapL rows a b) : a.length = b.length ∧ ∀ (j : Nat) (v v' : V), a[j]? = some v → b[j]? = some v' → Snap rows v v' := by
  induction a generalizing b with
  | nil => cases b with
    | nil => exact ⟨rfl, by simp⟩
    | cons y m => exact h.elim
  | cons x l ih => cases b with
    | nil => exact h.elim
    | cons y m =>
      obtain ⟨h1, h2⟩ := h
      obtain ⟨h3, h4⟩ := ih h2
      refine ⟨by simp [h3], fun j v v' h5 h6 => ?_⟩
      cases j with
      | zero => simp at h5 h6; subst h5 h6; exact h1
      | succ j => exact h4 j v v' (by simpa using h5) (by simpa using h6)

theorem snapL_of {a b : List V} (hl : a.length = b.length) (h : ∀ (j : Nat) (v v' : V), a[j]? = some v → b[j]? = some v' → Snap rows v v') : snapL rows a b := by
  induction a generalizing b with
  | nil => cases b with
    | nil => trivial
    | cons y m => simp at hl
  | cons x l ih => cases b with
    | nil => simp at hl
    | cons y m => exact ⟨h 0 x y rfl rfl, ih (by simpa using hl) fun j v v' h1 h2 => h (j + 1) v v' (by simpa using h1) (by simpa using h2)⟩

theorem sn_tup {a b : List V} : Snap rows (.tup a) (.tup b) = snapL rows a b := by
  rw [eq_iff_iff]
  constructor
  · intro h; cases h with | tup _ _ hl h => exact snapL_of hl h
  · intro h; exact .tup _ _ (snapL_spec h).1 (snapL_spec h).2
theorem sn_agg {a b : List V} : Snap rows (.agg a) (.agg b) = snapL rows a b := by
  rw [eq_iff_iff]
  constructor
  · intro h; cases h with | agg _ _ hl h => exact snapL_of hl h
  · intro h; exact .agg _ _ (snapL_spec h).1 (snapL_spec h).2

/-- own elements that are data already -/
theorem sn_osl {sz h n off len : Nat} {xs : List (List D)} {es : List (List D)} (hrow : rowAt rows h = .live sz (es.map (·.map .d))) (hn : es.length = n) (hle : off + len ≤ n) (hsz : ∀ e ∈ es, e.length = sz)
    (hxs : xs = (es.drop off).take len) : Snap rows (.osl sz h n off len) (.d (.sl sz xs)) := by
  subst hxs
  refine .osl sz h n off len _ _ (rowAt_live.2 hrow) (by simpa using hn) hle (by simp; omega) (fun x hx => hsz x (List.mem_of_mem_drop (List.mem_of_mem_take hx))) ?_
  intro i j e x v y h1 h2 h3 h4
  rw [List.getElem?_map] at h1
  obtain ⟨e0, h5, rfl⟩ := Option.map_eq_some_iff.1 h1
  rw [List.getElem?_take] at h2
  split at h2
  · rw [List.getElem?_drop, h5] at h2
    injection h2 with h2; subst h2
    rw [List.getElem?_map, h4] at h3
    injection h3 with h3; subst h3
    exact .d _
  · cases h2
end

section
variable {P : Program} {b0 : Nat} {Q : AX → St → Prop} {base : Nat} {s : AStm} {S : St} {κ : KV} {b : Bool}
theorem split_gt (ht : b = true → stmU P base s S κ) (hf : b = false → κ (.tup []) []) : guardA (.d (.bool b)) true P base s S κ := by
  cases b
  · rw [g_ft]; exact hf rfl
  · rw [g_tt]; exact ht rfl
theorem split_gf (hf : b = false → stmU P base s S κ) (ht : b = true → κ (.tup []) []) : guardA (.d (.bool b)) false P base s S κ := by
  cases b
  · rw [g_ff]; exact hf rfl
  · rw [g_tf]; exact ht rfl
theorem split_p {a c : V} (ht : b = true → κ a []) (hf : b = false → κ c []) : pickA (.d (.bool b)) a c κ := by
  cases b
  · exact hf rfl
  · exact ht rfl
end

/-- cells, one by one -/
def snapR (rows : Rows) : List V → List D → Prop
  | [], [] => True
  | v :: l, y :: k => Snap rows v (.d y) ∧ snapR rows l k
  | _, _ => False
def snapZ (rows : Rows) (sz : Nat) : List (List V) → List (List D) → Prop
  | [], [] => True
  | e :: es, x :: xs => x.length = sz ∧ snapR rows e x ∧ snapZ rows sz es xs
  | _, _ => False
theorem snapR_get {rows : Rows} : ∀ {l : List V} {k : List D}, snapR rows l k → ∀ (j : Nat) (v : V) (y : D), l[j]? = some v → k[j]? = some y → Snap rows v (.d y)
  | [], [], _, j, v, y, h, _ => by simp at h
  | _ :: l, _ :: k, h, 0, v, y, h1, h2 => by simp at h1 h2; subst h1 h2; exact h.1
  | _ :: l, _ :: k, h, j + 1, v, y, h1, h2 => snapR_get h.2 j v y (by simpa using h1) (by simpa using h2)
theorem snapZ_get {rows : Rows} {sz : Nat} : ∀ {es : List (List V)} {xs : List (List D)}, snapZ rows sz es xs → xs.length = es.length ∧ (∀ x ∈ xs, x.length = sz) ∧ ∀ (i : Nat) (e : List V) (x : List D), es[i]? = some e → xs[i]? = some x → snapR rows e x
  | [], [], _ => ⟨rfl, by simp, by simp⟩
  | e :: es, x :: xs, h => by
    obtain ⟨h1, h2, h3⟩ := snapZ_get h.2.2
    refine ⟨by simp [h1], fun y hy => ?_, fun i e' x' he hx => ?_⟩
    · rcases List.mem_cons.1 hy with rfl | hy
      · exact h.1
      · exact h2 y hy
    · cases i with
      | zero => simp at he hx; subst he hx; exact h.2.1
      | succ i => exact h3 i e' x' (by simpa using he) (by simpa using hx)
/-- a slice of a row whose cells may be slices of rows -/
theorem sn_oslZ {rows : Rows} {sz h n off len : Nat} {es : List (List V)} {xs : List (List D)} (hrow : rowAt rows h = .live sz es) (hn : es.length = n) (hle : off + len ≤ n) (hz : snapZ rows sz ((es.drop off).take len) xs) : Snap rows (.osl sz h n off len) (.d (.sl sz xs)) := by
  obtain ⟨h1, h2, h3⟩ := snapZ_get hz
  refine .osl sz h n off len es xs (rowAt_live.2 hrow) hn hle (by rw [h1]; simp; omega) h2 fun i j e x v y he hx hv hy => ?_
  have hi : i < len := by
    have := (List.getElem?_eq_some_iff.1 hx).1
    rw [h1] at this; simp at this; omega
  exact snapR_get (h3 i e x (by rw [List.getElem?_take_of_lt hi, List.getElem?_drop]; exact he) hx) j v y hv hy

end Go.Vx
namespace Go.Vx
variable {P : Program}
theorem callM_of' {f : FuncId} {fn : Func} {ac : AC} {vals : List V} {v : V} {sz : Nat} {es es' : List (List V)} {rs : List RS} {n : Nat} (hf : P.funcs[f]? = some fn) (hname : (fn.name == "runtime.NumGoroutine") = false)
    (hr : fn.results.toList.mapM (compRS P) = some rs) (hn : fn.ntmps = n) (hc : fn.body.bind (compC P) = some ac.erase)
    (hw : wpC P 1 ac (retM rs v sz es') ⟨vals ++ List.replicate (n - vals.length) (.tup []), [.live sz es]⟩) : CallM P f vals sz es v es' := by
  obtain ⟨code, hb, hc⟩ := Option.bind_eq_some_iff.1 hc
  exact callM_of hf hname hb hr n hn hc hw
theorem call_of {f : FuncId} {fn : Func} {ac : AC} {vals : List V} {v : V} {rs : List RS} {n : Nat} (hf : P.funcs[f]? = some fn) (hname : (fn.name == "runtime.NumGoroutine") = false)
    (hr : fn.results.toList.mapM (compRS P) = some rs) (hn : fn.ntmps = n) (hc : fn.body.bind (compC P) = some ac.erase)
    (hw : wpC P 0 ac (retQ rs v) ⟨vals ++ List.replicate (n - vals.length) (.tup []), []⟩) : CallP P f vals v := by
  obtain ⟨code, hb, hc⟩ := Option.bind_eq_some_iff.1 hc
  exact callP_of hf hname hb hr n hn hc hw

end Go.Vx
