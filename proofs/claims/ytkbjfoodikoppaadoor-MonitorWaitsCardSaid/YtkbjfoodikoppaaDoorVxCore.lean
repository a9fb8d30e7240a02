import Derived.Calls
import Derived.Laws.World
import Derived.Laws.Sem
set_option linter.unusedSectionVars false
set_option linter.unusedSimpArgs false
set_option linter.unusedVariables false
namespace Go.Vx

/-- Data without handles: what immutable memory holds. -/
inductive D where
  | int (k : IntKind) (n : Int)
  | bool (b : Bool)
  | str (s : List UInt8)
  | boolU
  | nils
  | nilp
  | sl (sz : Nat) (es : List (List D))
  | ptr (cs : List D)
  deriving Inhabited

/-- The values of a frame. -/
inductive V where
  | any
  | d (x : D)
  | osl (sz h n off len : Nat)
  | optr (sz h n i off : Nat)
  | agg (cs : List V)
  | tup (vs : List V)
  | fn (f : Fn) (first cap : List V)
  deriving Inhabited

/-- Objects that are no rows of cells: an iterator over a string, a map with strings as keys. -/
inductive GO where
  | it (s : List UInt8) (pos : Nat)
  | mp (es : List (List UInt8 × D))
  | loop (l : Nat) (L : Loop)
  deriving Inhabited

inductive RowS where
  | un
  | dead
  | live (sz : Nat) (es : List (List V))
  | obj (o : GO)
  deriving Inhabited

def RowS.isL : RowS → Prop
  | .live _ _ => True
  | .obj _ => True
  | .un => False
  | .dead => False

def dv : D → Value
  | .int k n => .int k n
  | .bool b => .bool b
  | .str s => .string ⟨s.toArray⟩
  | _ => .tuple #[]
def isSc : D → Bool
  | .int _ _ => true
  | .bool _ => true
  | .str _ => true
  | _ => false

def GOk (w : World) (b : Nat) : GO → Prop
  | .it s pos => w.heap[b]? = some (.stringIter ⟨s.toArray⟩ pos)
  | .mp es => ∃ ents clock, w.heap[b]? = some (.map ents clock) ∧ ents.toList.map (fun e => (e.key, e.val)) = es.map (fun p => (Value.string ⟨p.1.toArray⟩, dv p.2)) ∧ ∀ p ∈ es, isSc p.2 = true
  | .loop l L => b = l ∧ w.heap[b]? = some (.loop L)

theorem GOk.lt {w : World} {b : Nat} {o : GO} (h : GOk w b o) : b < w.heap.size := by
  cases o with
  | it s pos => exact (Array.getElem?_eq_some_iff.1 h).1
  | mp es => obtain ⟨_, _, h, _⟩ := h; exact (Array.getElem?_eq_some_iff.1 h).1
  | loop l L => exact (Array.getElem?_eq_some_iff.1 h.2).1
theorem GOk.same {w w' : World} {b : Nat} {o : GO} (h : GOk w b o) (e : w'.heap[b]? = w.heap[b]?) : GOk w' b o := by
  cases o with
  | it s pos => exact e.trans h
  | mp es => obtain ⟨x, y, h, h2⟩ := h; exact ⟨x, y, e.trans h, h2⟩
  | loop l L => exact ⟨h.1, e.trans h.2⟩

abbrev Rows := List RowS

/-- A context: where the handles lie, which blocks are immutable, the rows, the world. -/
structure Cx where
  ρ : Nat → Option Nat
  I : Nat → Prop
  rows : Rows
  w : World

inductive RepD (I : Nat → Prop) (w : World) : Value → D → Prop where
  | int (k : IntKind) (n : Int) : RepD I w (.int k n) (.int k n)
  | bool (b : Bool) : RepD I w (.bool b) (.bool b)
  | boolU (b : Bool) : RepD I w (.bool b) .boolU
  | str (s : List UInt8) : RepD I w (.string ⟨s.toArray⟩) (.str s)
  | nils : RepD I w (.slice none 0 0) .nils
  | nilp : RepD I w (.pointer none) .nilp
  | slNil (sz : Nat) : RepD I w (.slice none 0 0) (.sl sz [])
  | slEmp (sz : Nat) (a : Addr) (cap : Nat) : RepD I w (.slice (some a) 0 cap) (.sl sz [])
  | sl (sz : Nat) (es : List (List D)) (b off cap : Nat) (u : Nat → Nat → Value) (hcap : es.length ≤ cap) (hI : I b)
      (hsz : ∀ e ∈ es, e.length = sz)
      (hcell : ∀ i e j v, es[i]? = some e → e[j]? = some v → w.cell? ⟨b, off + (i * sz + j), none⟩ = some (u i j))
      (hrep : ∀ i e j v, es[i]? = some e → e[j]? = some v → RepD I w (u i j) v) :
      RepD I w (.slice (some ⟨b, off, none⟩) es.length cap) (.sl sz es)
  | ptr (cs : List D) (b off : Nat) (u : Nat → Value) (hI : I b)
      (hcell : ∀ j v, cs[j]? = some v → w.cell? ⟨b, off + j, none⟩ = some (u j))
      (hrep : ∀ j v, cs[j]? = some v → RepD I w (u j) v) :
      RepD I w (.pointer (some ⟨b, off, none⟩)) (.ptr cs)

/-- The words that are no names, as the package holds them. -/
def kws : List (List UInt8) := [[99, 108, 97, 115, 115], [101, 120, 116, 101, 110, 100, 115], [114, 97, 110, 100], [114, 97, 110, 100, 99], [115, 116, 97, 116, 101], [99, 111, 110, 115, 116, 114, 97, 105, 110, 116], [115, 111, 102, 116], [100, 105, 115, 116], [105, 102], [101, 108, 115, 101], [101, 97, 99, 104], [105, 110], [115, 111, 108, 118, 101], [98, 101, 102, 111, 114, 101], [105, 110, 115, 105, 100, 101], [112, 114, 111, 112, 101, 114, 116, 121], [115, 101, 113], [97, 110, 100], [111, 114], [110, 111, 116], [115, 101, 116], [104, 111, 108, 100], [112, 108, 97, 105, 110], [114, 101, 112, 101, 97, 116]]
def kwD : D := .sl 1 (kws.map fun s => [.str s])
/-- What the package variables hold. -/
def GW (I : Nat → Prop) (w : World) : Prop := RepD I w (.pointer (some ⟨0, 0, none⟩)) (.ptr [kwD])

/-- A value of one cell. -/
def oneV : V → Bool
  | .any | .agg _ | .tup _ => false
  | _ => true

def Stale (rows : Rows) (h n : Nat) : Prop := rows[h]? = some .dead ∨ ∃ sz es, rows[h]? = some (.live sz es) ∧ n < es.length

inductive Rep (c : Cx) : Value → V → Prop where
  | any (v : Value) : Rep c v .any
  | d (v : Value) (x : D) (h : RepD c.I c.w v x) : Rep c v (.d x)
  | osl (sz h n off len cap b : Nat) (o : Nat) (es : List (List V)) (arr : Array Value) (ty : TypeId) (fz : Nat × Nat)
      (hrow : c.rows[h]? = some (.live sz es)) (hn : es.length = n) (hρ : c.ρ h = some b) (hb : c.w.heap[b]? = some (.cells arr ty fz))
      (ho : o = off * sz ∨ cap = 0) (hcap : (off + cap) * sz ≤ arr.size) (hlc : len ≤ cap) (hlen : off + len ≤ n) :
      Rep c (.slice (some ⟨b, o, none⟩) len cap) (.osl sz h n off len)
  | oslVirt (sz h : Nat) (hrow : c.rows[h]? = some (.live sz [])) (hρ : c.ρ h = none) : Rep c (.slice none 0 0) (.osl sz h 0 0 0)
  | oslStale (v : Value) (sz h n off len : Nat) (hv : v.oneCell' = true) (hs : Stale c.rows h n) : Rep c v (.osl sz h n off len)
  | optr (sz h n i off b : Nat) (es : List (List V)) (hrow : c.rows[h]? = some (.live sz es)) (hn : es.length = n) (hρ : c.ρ h = some b) :
      Rep c (.pointer (some ⟨b, i * sz + off, none⟩)) (.optr sz h n i off)
  | optrStale (v : Value) (sz h n i off : Nat) (hv : v.oneCell' = true) (hs : Stale c.rows h n) : Rep c v (.optr sz h n i off)
  | oh (v : Value) (h k b : Nat) (o : GO) (hrow : c.rows[h]? = some (.obj o)) (hρ : c.ρ h = some b) (hv : v.oneCell' = true)
      (h0 : k = 0 → v = .pointer (some ⟨b, 0, none⟩)) (h1 : k = 1 → v = .map (some b)) : Rep c v (.optr 0 h 0 k 0)
  | agg (vs : Array Value) (cs : List V) (hlen : vs.size = cs.length) (hrep : ∀ (j : Nat) (v : V) (x : Value), cs[j]? = some v → vs[j]? = some x → Rep c x v) : Rep c (.agg vs) (.agg cs)
  | tup (vs : Array Value) (cs : List V) (hlen : vs.size = cs.length) (hrep : ∀ (j : Nat) (v : V) (x : Value), cs[j]? = some v → vs[j]? = some x → Rep c x v) : Rep c (.tuple vs) (.tup cs)
  | fn (f : Fn) (fs cps : Array Value) (first cap : List V) (hf : fs.size = first.length) (hc : cps.size = cap.length)
      (hfr : ∀ (j : Nat) (v : V) (x : Value), first[j]? = some v → fs[j]? = some x → Rep c x v)
      (hcr : ∀ (j : Nat) (v : V) (x : Value), cap[j]? = some v → cps[j]? = some x → Rep c x v) : Rep c (.func f fs cps) (.fn f first cap)

/-- The cells arr hold the elements es. -/
def Cont (c : Cx) (sz : Nat) (es : List (List V)) (arr : Array Value) : Prop :=
  (∀ e ∈ es, e.length = sz ∧ ∀ v ∈ e, oneV v = true) ∧ es.length * sz ≤ arr.size ∧
    ∀ (i : Nat) (e : List V) (j : Nat) (v : V), es[i]? = some e → e[j]? = some v → ∃ x, arr[i * sz + j]? = some x ∧ Rep c x v

structure OkG (c : Cx) : Prop where
  gob : ∀ (h : Nat) (o : GO), c.rows[h]? = some (RowS.obj o) → ∃ b, c.ρ h = some b ∧ GOk c.w b o
  glob : GW c.I c.w

structure Ok (c : Cx) : Prop where
  inj : ∀ h h' b, c.ρ h = some b → c.ρ h' = some b → h = h'
  own : ∀ h b, c.ρ h = some b → b < c.w.heap.size ∧ ¬ c.I b ∧ ∃ r, c.rows[h]? = some r ∧ r.isL
  cont : ∀ h b sz es, c.ρ h = some b → c.rows[h]? = some (.live sz es) → ∃ arr ty fz, c.w.heap[b]? = some (.cells arr ty fz) ∧
    (∀ i, i < arr.size → ¬ (fz.1 ≤ i ∧ i < fz.2)) ∧ Cont c sz es arr
  virt : ∀ h sz es, c.ρ h = none → c.rows[h]? = some (.live sz es) → es = []
  imm : ∀ b, c.I b → b < c.w.heap.size
  g : OkG c

def RowStep (c0 c : Cx) (h : Nat) : Prop :=
  match c0.rows[h]? with
  | none => True
  | some .un => ∃ r, c.rows[h]? = some r
  | some .dead => c.rows[h]? = some .dead
  | some (.obj _) => c.rows[h]? = some .dead ∨ ((∃ o', c.rows[h]? = some (RowS.obj o')) ∧ c.ρ h = c0.ρ h)
  | some (.live sz es) => c.rows[h]? = some .dead ∨ ∃ es', c.rows[h]? = some (.live sz es') ∧ (es.length < es'.length ∨
      (es.length = es'.length ∧ c.ρ h = c0.ρ h ∧ ∀ b arr ty fz, c0.ρ h = some b → c0.w.heap[b]? = some (.cells arr ty fz) → ∃ arr' fz', c.w.heap[b]? = some (.cells arr' ty fz') ∧ arr'.size = arr.size))

structure Ext (c0 c : Cx) : Prop where
  os : c.w.os = c0.w.os
  tape : c.w.tape = c0.w.tape
  output : c.w.output = c0.w.output
  size : c0.w.heap.size ≤ c.w.heap.size
  keep : ∀ b, b < c0.w.heap.size → (∀ h, c0.ρ h ≠ some b) → c.w.heap[b]? = c0.w.heap[b]?
  imm : ∀ b, c0.I b → c.I b
  newI : ∀ b, c.I b → c0.I b ∨ c0.w.heap.size ≤ b ∨ ∃ h, c0.ρ h = some b
  new : ∀ h b, c.ρ h = some b → c0.ρ h = some b ∨ c0.w.heap.size ≤ b
  rows : ∀ h, RowStep c0 c h

theorem RepD.mono {I I' : Nat → Prop} {w w' : World} (hI : ∀ b, I b → I' b) (hb : ∀ b, I b → w'.heap[b]? = w.heap[b]?) {v : Value} {x : D} (h : RepD I w v x) : RepD I' w' v x := by
  have hc : ∀ b, I b → ∀ o, w'.cell? ⟨b, o, none⟩ = w.cell? ⟨b, o, none⟩ := fun b h o => by simp [World.cell?, hb b h]
  induction h with
  | int k n => exact .int k n
  | bool b => exact .bool b
  | boolU b => exact .boolU b
  | str s => exact .str s
  | nils => exact .nils
  | nilp => exact .nilp
  | slNil sz => exact .slNil sz
  | slEmp sz a cap => exact .slEmp sz a cap
  | sl sz es b off cap u hcap hIb hsz hcell hrep ih =>
    exact .sl sz es b off cap u hcap (hI b hIb) hsz (fun i e j v h1 h2 => (hc b hIb _).trans (hcell i e j v h1 h2)) ih
  | ptr cs b off u hIb hcell hrep ih =>
    exact .ptr cs b off u (hI b hIb) (fun j v h1 => (hc b hIb _).trans (hcell j v h1)) ih

theorem Ext.imm_same {c0 c : Cx} (h : Ext c0 c) (ok : Ok c0) (b : Nat) (hb : c0.I b) : c.w.heap[b]? = c0.w.heap[b]? :=
  h.keep b (ok.imm b hb) fun _ hh => (ok.own _ _ hh).2.1 hb

/-- Where the objects stay as they are. -/
theorem OkG.step {c0 c : Cx} (ok : Ok c0) (hx : Ext c0 c) (hr : ∀ (h : Nat) (o : GO), c.rows[h]? = some (RowS.obj o) → c0.rows[h]? = some (RowS.obj o) ∧ c.ρ h = c0.ρ h ∧ ∀ b, c0.ρ h = some b → c.w.heap[b]? = c0.w.heap[b]?) : OkG c where
  gob := fun h o hh => by
    obtain ⟨h1, h2, h4⟩ := hr h o hh
    obtain ⟨b, h3, h5⟩ := ok.g.gob h o h1
    exact ⟨b, h2.trans h3, h5.same (h4 b h3)⟩
  glob := ok.g.glob.mono hx.imm (hx.imm_same ok)

theorem Stale.mono {c0 c : Cx} (hx : Ext c0 c) {h n : Nat} (hs : Stale c0.rows h n) : Stale c.rows h n := by
  have hr := hx.rows h
  unfold RowStep at hr
  rcases hs with hs | ⟨sz, es, hs, hn⟩
  · rw [hs] at hr; exact .inl hr
  · rw [hs] at hr
    rcases hr with hr | ⟨es', hr, hl | ⟨hl, _⟩⟩
    · exact .inl hr
    · exact .inr ⟨sz, es', hr, by omega⟩
    · exact .inr ⟨sz, es', hr, by omega⟩

theorem Rep.mono {c0 c : Cx} (hx : Ext c0 c) (ok : Ok c0) {v : Value} {x : V} (h : Rep c0 v x) : Rep c v x := by
  induction h with
  | any v => exact .any v
  | d v x h => exact .d v x (h.mono hx.imm (hx.imm_same ok))
  | osl sz h n off len cap b o es arr ty fz hrow hn hρ hb ho hcap hlc hlen =>
    have hr := hx.rows h
    unfold RowStep at hr
    rw [hrow] at hr
    rcases hr with hr | ⟨es', hr, hl | ⟨hl, hρ', hbl⟩⟩
    · exact .oslStale _ _ _ _ _ _ rfl (.inl hr)
    · exact .oslStale _ _ _ _ _ _ rfl (.inr ⟨sz, es', hr, by omega⟩)
    · obtain ⟨arr', fz', hb', hs⟩ := hbl b arr ty fz hρ hb
      exact .osl sz h n off len cap b o es' arr' ty fz' hr (by omega) (hρ'.trans hρ) hb' ho (by rw [hs]; exact hcap) hlc hlen
  | oslVirt sz h hrow hρ =>
    have hr := hx.rows h
    unfold RowStep at hr
    rw [hrow] at hr
    rcases hr with hr | ⟨es', hr, hl | ⟨hl, hρ', hbl⟩⟩
    · exact .oslStale _ _ _ _ _ _ rfl (.inl hr)
    · exact .oslStale _ _ _ _ _ _ rfl (.inr ⟨sz, es', hr, by simpa using hl⟩)
    · have : es' = [] := List.eq_nil_of_length_eq_zero (by simpa using hl.symm)
      subst this
      exact .oslVirt sz h hr (hρ'.trans hρ)
  | oslStale v sz h n off len hv hs => exact .oslStale v sz h n off len hv (hs.mono hx)
  | optr sz h n i off b es hrow hn hρ =>
    have hr := hx.rows h
    unfold RowStep at hr
    rw [hrow] at hr
    rcases hr with hr | ⟨es', hr, hl | ⟨hl, hρ', hbl⟩⟩
    · exact .optrStale _ _ _ _ _ _ rfl (.inl hr)
    · exact .optrStale _ _ _ _ _ _ rfl (.inr ⟨sz, es', hr, by omega⟩)
    · exact .optr sz h n i off b es' hr (by omega) (hρ'.trans hρ)
  | optrStale v sz h n i off hv hs => exact .optrStale v sz h n i off hv (hs.mono hx)
  | oh v h k b o hrow hρ hv h0 h1 =>
    have hr := hx.rows h
    unfold RowStep at hr
    rw [hrow] at hr
    rcases hr with hr | ⟨⟨o', hr⟩, hρ'⟩
    · exact .optrStale _ _ _ _ _ _ hv (.inl hr)
    · exact .oh v h k b o' hr (hρ'.trans hρ) hv h0 h1
  | agg vs cs hlen hrep ih => exact .agg vs cs hlen ih
  | tup vs cs hlen hrep ih => exact .tup vs cs hlen ih
  | fn f fs cps first cap hf hc hfr hcr ih1 ih2 => exact .fn f fs cps first cap hf hc ih1 ih2

theorem Rep.one {c : Cx} {u : Value} {v : V} (h : Rep c u v) (hv : oneV v = true) : u.oneCell' = true := by
  cases h with
  | d _ _ h => cases h <;> rfl
  | osl => rfl
  | oslVirt => rfl
  | oslStale _ _ _ _ _ _ hv' => exact hv'
  | optr => rfl
  | optrStale _ _ _ _ _ _ hv' => exact hv'
  | oh _ _ _ _ _ _ _ hv' => exact hv'
  | fn => rfl
  | any => simp [oneV] at hv
  | agg => simp [oneV] at hv
  | tup => simp [oneV] at hv

theorem Cont.mono {c0 c : Cx} (hx : Ext c0 c) (ok : Ok c0) {sz : Nat} {es : List (List V)} {arr : Array Value} (h : Cont c0 sz es arr) : Cont c sz es arr :=
  ⟨h.1, h.2.1, fun i e j v h1 h2 => let ⟨x, hx1, hx2⟩ := h.2.2 i e j v h1 h2; ⟨x, hx1, hx2.mono hx ok⟩⟩

theorem RowStep.refl (c : Cx) (h : Nat) : RowStep c c h := by
  unfold RowStep
  split
  · trivial
  · rename_i hh; exact ⟨_, hh⟩
  · assumption
  · rename_i hh; exact .inr ⟨⟨_, hh⟩, rfl⟩
  · rename_i hh; exact .inr ⟨_, hh, .inr ⟨rfl, rfl, fun b arr ty fz _ hb => ⟨arr, fz, hb, rfl⟩⟩⟩

theorem Ext.refl (c : Cx) : Ext c c := ⟨rfl, rfl, rfl, Nat.le_refl _, fun _ _ _ => rfl, fun _ h => h, fun _ h => .inl h, fun _ _ h => .inl h, RowStep.refl c⟩

theorem RowStep.trans {a b c : Cx} {h : Nat} (hab : RowStep a b h) (hbc : RowStep b c h) : RowStep a c h := by
  unfold RowStep at hab ⊢
  split
  · trivial
  · rename_i ha
    rw [ha] at hab
    obtain ⟨r, hr⟩ := hab
    unfold RowStep at hbc
    rw [hr] at hbc
    cases r with
    | un => exact hbc
    | dead => exact ⟨_, hbc⟩
    | live sz es =>
      rcases hbc with hbc | ⟨es', hbc, _⟩
      · exact ⟨_, hbc⟩
      · exact ⟨_, hbc⟩
    | obj o =>
      rcases hbc with hbc | ⟨⟨es', hbc⟩, _⟩
      · exact ⟨_, hbc⟩
      · exact ⟨_, hbc⟩
  · rename_i ha
    rw [ha] at hab
    unfold RowStep at hbc
    simp only at hab
    rw [hab] at hbc
    exact hbc
  · rename_i o ha
    rw [ha] at hab
    unfold RowStep at hbc
    rcases hab with hab | ⟨⟨o1, hab⟩, hρ1⟩
    · rw [hab] at hbc; exact .inl hbc
    · rw [hab] at hbc
      rcases hbc with hbc | ⟨hbc, hρ2⟩
      · exact .inl hbc
      · exact .inr ⟨hbc, hρ2.trans hρ1⟩
  · rename_i sz es ha
    rw [ha] at hab
    unfold RowStep at hbc
    rcases hab with hab | ⟨es1, hab, h1⟩
    · rw [hab] at hbc; exact .inl hbc
    · rw [hab] at hbc
      rcases hbc with hbc | ⟨es2, hbc, h2⟩
      · exact .inl hbc
      · refine .inr ⟨es2, hbc, ?_⟩
        rcases h1 with h1 | ⟨h1, r1, b1⟩
        · rcases h2 with h2 | ⟨h2, _⟩
          · exact .inl (by omega)
          · exact .inl (by omega)
        · rcases h2 with h2 | ⟨h2, r2, b2⟩
          · exact .inl (by omega)
          · refine .inr ⟨by omega, r2.trans r1, fun bl arr ty fz hρ hb => ?_⟩
            obtain ⟨arr', fz', hb', hs'⟩ := b1 bl arr ty fz hρ hb
            obtain ⟨arr2, fz2, hb2, hs2⟩ := b2 bl arr' ty fz' (r1.trans hρ) hb'
            exact ⟨arr2, fz2, hb2, hs2.trans hs'⟩

theorem Ext.trans {a b c : Cx} (h1 : Ext a b) (h2 : Ext b c) : Ext a c where
  os := h2.os.trans h1.os
  tape := h2.tape.trans h1.tape
  output := h2.output.trans h1.output
  size := Nat.le_trans h1.size h2.size
  keep := fun bl hb hno => (h2.keep bl (Nat.lt_of_lt_of_le hb h1.size) (fun h hh => by
    rcases h1.new h bl hh with hh | hh
    · exact hno h hh
    · omega)).trans (h1.keep bl hb hno)
  imm := fun bl h => h2.imm bl (h1.imm bl h)
  newI := fun bl h => by
    rcases h2.newI bl h with h | h | ⟨hh, h⟩
    · exact h1.newI bl h
    · exact .inr (.inl (Nat.le_trans h1.size h))
    · rcases h1.new hh bl h with h | h
      · exact .inr (.inr ⟨hh, h⟩)
      · exact .inr (.inl h)
  new := fun h bl hh => by
    rcases h2.new h bl hh with hh | hh
    · exact h1.new h bl hh
    · exact .inr (Nat.le_trans h1.size hh)
  rows := fun h => (h1.rows h).trans (h2.rows h)

end Go.Vx
