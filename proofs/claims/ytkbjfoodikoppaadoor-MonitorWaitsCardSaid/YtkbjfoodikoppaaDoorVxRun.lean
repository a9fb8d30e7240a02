import Derived.Test.YtkbjfoodikoppaaDoorVxComp
import Derived.RangeFuncSeq
set_option linter.unusedSectionVars false
set_option linter.unusedSimpArgs false
set_option linter.unusedVariables false
namespace Go.Vx

structure St where
  fr : List V
  rows : Rows

inductive AAct where
  | op (o : AOp)
  | call (f : Opd) (args : List Opd)
  deriving Inhabited

structure AStm where
  dst : Option Nat
  hi : Nat
  guard : Option (Nat × Bool)
  act : AAct
  deriving Inhabited

def putV (fr : List V) (dst : Option Nat) (v : V) : List V :=
  match dst with
  | none => fr
  | some d => setN fr d v

/-- No handle in a value (one level of cells). -/
def noH1 : V → Bool
  | .osl _ _ _ _ _ | .optr _ _ _ _ _ => false
  | .agg _ | .tup _ | .fn _ _ _ => false
  | _ => true
def noH2 : V → Bool
  | .agg cs | .tup cs => cs.all noH1
  | .fn _ a b => a.all noH1 && b.all noH1
  | v => noH1 v
def noH : V → Bool
  | .agg cs | .tup cs => cs.all noH2
  | .fn _ a b => a.all noH2 && b.all noH2
  | v => noH1 v

def bare (I : Nat → Prop) (w : World) : Cx := ⟨fun _ => none, I, [], w⟩

def Enters (P : Program) (f : FuncId) : Prop := ∃ fn, P.funcs[f]? = some fn ∧ (fn.name == "runtime.NumGoroutine") = false ∧ fn.body.isNone = false

/-- A call that looks at data alone. -/
def CallP (P : Program) (f : FuncId) (vals : List V) (v : V) : Prop :=
  Enters P f ∧ ∀ (I : Nat → Prop) (w : World) (args : Array Value), Ok (bare I w) → RepL (bare I w) args.toList vals →
    Calls P f args w fun e w' => ∃ u I', e = .returned u ∧ Ok (bare I' w') ∧ Ext (bare I w) (bare I' w') ∧ Rep (bare I' w') u v

def toD : V → D
  | .d x => x
  | _ => .nils
def isD : V → Bool
  | .d _ => true
  | _ => false

/-- The data that a row holds now. -/
def snapC (rows : Rows) : V → V
  | .osl sz h _ off len =>
    match rows[h]? with
    | some (.live _ es) => .d (.sl sz (((es.drop off).take len).map (·.map toD)))
    | _ => .any
  | .optr _ h _ i off =>
    match rows[h]? with
    | some (.live _ es) =>
      match es[i]? with
      | some e => .d (.ptr ((e.drop off).map toD))
      | none => .any
    | _ => .any
  | v => v
def snapV (rows : Rows) : V → V
  | .agg cs => .agg (cs.map (snapC rows))
  | .fn f a b => .fn f (a.map (snapC rows)) (b.map (snapC rows))
  | v => snapC rows v
def snapCOk (rows : Rows) : V → Prop
  | .osl sz h n off len => off + len ≤ n ∧ ∃ es, rows[h]? = some (.live sz es) ∧ es.length = n ∧ ∀ e ∈ es, ∀ v ∈ e, isD v = true
  | .optr sz h n i off => ∃ es e, rows[h]? = some (.live sz es) ∧ es.length = n ∧ es[i]? = some e ∧ off ≤ e.length ∧ ∀ v ∈ e, isD v = true
  | v => noH v = true
def snapOk (rows : Rows) : V → Prop
  | .agg cs => ∀ v ∈ cs, snapCOk rows v
  | .fn _ a b => (∀ v ∈ a, snapCOk rows v) ∧ ∀ v ∈ b, snapCOk rows v
  | v => snapCOk rows v

def scal1 : V → Bool
  | .d (.int _ _) | .d (.bool _) | .d (.str _) => true
  | _ => false
def scal : V → Bool
  | .tup vs => vs.all scal1
  | v => scal1 v

def hOf1 : V → List Nat
  | .osl _ h _ _ _ => [h]
  | .optr _ h _ _ _ => [h]
  | _ => []
def hOf2 : V → List Nat
  | .agg cs => cs.flatMap hOf1
  | v => hOf1 v

/-- The meaning of a call of data: of arguments as they are, or as the rows hold them now. -/
def CallD (P : Program) (f : FuncId) (vals : List V) (rows : Rows) (v : V) : Prop :=
  ((∀ x ∈ vals, noH x = true) ∧ CallP P f vals v) ∨ ((∀ x ∈ vals, snapOk rows x) ∧ scal v = true ∧ CallP P f (vals.map (snapV rows)) v)

def hAll : V → List Nat
  | .agg cs => cs.flatMap hOf1
  | .fn _ a b => (a ++ b).flatMap hOf1
  | v => hOf1 v

/-- The rows that are handed to a call for good. -/
def kills (vals : List V) : List (Nat × RowS) := (vals.flatMap hAll).map fun h => (h, .dead)

/-- A call that takes the rows of its arguments for good. -/
def CallK (P : Program) (f : FuncId) (vals : List V) (rows : Rows) (v : V) : Prop :=
  (∀ x ∈ vals, snapOk rows x) ∧ CallP P f (vals.map (snapV rows)) v

mutual
/-- the handle h0 in place of each -/
def renH (h0 : Nat) : V → V
  | .any => .any
  | .d x => .d x
  | .osl sz _ n off len => .osl sz h0 n off len
  | .optr sz _ n i off => .optr sz h0 n i off
  | .agg cs => .agg (renHL h0 cs)
  | .tup vs => .tup (renHL h0 vs)
  | .fn f a b => .fn f (renHL h0 a) (renHL h0 b)
def renHL (h0 : Nat) : List V → List V
  | [] => []
  | v :: l => renH h0 v :: renHL h0 l
end
mutual
/-- all handles are 0 -/
def hZ : V → Bool
  | .any => true
  | .d _ => true
  | .osl _ h _ _ _ => h == 0
  | .optr _ h _ _ _ => h == 0
  | .agg cs => hZL cs
  | .tup vs => hZL vs
  | .fn _ a b => hZL a && hZL b
def hZL : List V → Bool
  | [] => true
  | v :: l => hZ v && hZL l
end

def dataE (es : List (List V)) : Prop := ∀ e ∈ es, ∀ v ∈ e, isD v = true

/-- A call that looks at data and at one row of the caller, which it may change. -/
def CallM (P : Program) (f : FuncId) (vals : List V) (sz : Nat) (es : List (List V)) (v : V) (es' : List (List V)) : Prop :=
  Enters P f ∧ ∀ (c : Cx) (args : Array Value), Ok c → c.rows = [.live sz es] → RepL c args.toList vals →
    Calls P f args c.w fun e w' => ∃ u c', e = .returned u ∧ w' = c'.w ∧ Ok c' ∧ Ext c c' ∧ c'.rows = [.live sz es'] ∧ Rep c' u v

def CallMX (P : Program) (f : FuncId) (vals : List V) (rows : Rows) (v : V) (ups : List (Nat × RowS)) : Prop :=
  ∃ h0 sz es es' vals0 v0, rows[h0]? = some (.live sz es) ∧ dataE es ∧ dataE es' ∧ es'.length = es.length ∧ vals = vals0.map (renH h0) ∧ (∀ x ∈ vals0, hZ x = true) ∧ h0 ∈ vals.flatMap hAll ∧
    CallM P f vals0 sz es v0 es' ∧ v = renH h0 v0 ∧ ups = [(h0, .live sz es')]

def CallX (P : Program) (f : FuncId) (vals : List V) (rows : Rows) (v : V) (ups : List (Nat × RowS)) : Prop :=
  (CallD P f vals rows v ∧ ups = []) ∨ (CallK P f vals rows v ∧ ups = kills vals) ∨ CallMX P f vals rows v ups

/-- What is known of the contexts that are met, beside their rows: it stays true. -/
class CtxPred where
  G : Cx → Prop
  stable : ∀ {c c' : Cx}, Ext c c' → G c → G c'
instance (priority := low) ctxTriv : CtxPred := ⟨fun _ => True, fun _ _ => trivial⟩

section
variable [CtxPred]
/-- A call that is looked into: it stands in the rows of its caller. -/
def InlP (P : Program) (f : FuncId) (vals : List V) (rows : Rows) (K : V → Rows → Prop) : Prop :=
  Enters P f ∧ ∀ (c : Cx) (args : Array Value), Ok c → CtxPred.G c → c.rows = rows → RepL c args.toList vals →
    Calls P f args c.w fun e w' => ∃ u c' v, e = .returned u ∧ w' = c'.w ∧ Ok c' ∧ Ext c c' ∧ Rep c' u v ∧ K v c'.rows

/-- A call of yield: the round stands in the rows of the iterator's caller. -/
def YldX (P : Program) (l : Nat) (vals : List V) (rows : Rows) (v : V) (ups : List (Nat × RowS)) : Prop :=
  rows.length < 64 ∧ (∀ p ∈ ups, p.1 < 64) ∧ ∀ (c : Cx) (args : Array Value), Ok c → CtxPred.G c → c.rows = rows → RepL c args.toList vals →
    YieldAt Fence.wide 0 P l args c.w fun e w' => ∃ u c', e = .returned u ∧ w' = c'.w ∧ Ok c' ∧ Ext c c' ∧ c'.rows = setRows rows ups ∧ Rep c' u v

def callW (P : Program) (fv : V) (args : List V) (rows : Rows) (K : V → List (Nat × RowS) → Prop) : Prop :=
  match fv with
  | .fn (.func f) first cap => ∃ v ups, CallX P f (first ++ args ++ cap) rows v ups ∧ K v ups
  | .fn (.yield l) first _ => ∃ v ups, YldX P l (first ++ args) rows v ups ∧ K v ups
  | _ => False

def actW (P : Program) (base : Nat) (s : AStm) (S : St) (K : V → List (Nat × RowS) → Prop) : Prop :=
  match s.act with
  | .op o => (o.makes = true → S.rows[base + s.hi]? = some .un) ∧ opW o (Opd.ev S.fr) S.rows (base + s.hi) K
  | .call f args => callW P (f.ev S.fr) (args.map (Opd.ev S.fr)) S.rows K

def stmU (P : Program) (base : Nat) (s : AStm) (S : St) (K : V → List (Nat × RowS) → Prop) : Prop :=
  match s.guard with
  | none => actW P base s S K
  | some (t, want) =>
    match nth S.fr t with
    | .d (.bool b) => (b = want → actW P base s S K) ∧ (b ≠ want → K (.tup []) [])
    | .tup [] => K (.tup []) []
    | _ => False

def guardOn (g : Option (Nat × Bool)) (fr : List V) : Prop :=
  match g with
  | none => True
  | some (t, want) => nth fr t = .d (.bool want)

def inlW (P : Program) (s : AStm) (S : St) (K : V → Rows → Prop) : Prop :=
  match s.act with
  | .call f args =>
    guardOn s.guard S.fr ∧
    match f.ev S.fr with
    | .fn (.func g) first cap => InlP P g (first ++ args.map (Opd.ev S.fr) ++ cap) S.rows K
    | _ => False
  | _ => False

def St.after (S : St) (s : AStm) (v : V) (ups : List (Nat × RowS)) : St := ⟨putV S.fr s.dst v, setRows S.rows ups⟩

def runW (P : Program) (base : Nat) : List AStm → (St → Prop) → St → Prop
  | [], K, S => K S
  | s :: l, K, S => stmU P base s S fun v ups => runW P base l K (S.after s v ups)

/-- As runW; the statements that the list names are looked into. -/
def runI (P : Program) (base : Nat) : List Bool → List AStm → (St → Prop) → St → Prop
  | _, [], K, S => K S
  | true :: fl, s :: l, K, S => inlW P s S fun v rows' => runI P base fl l K ⟨putV S.fr s.dst v, rows'⟩
  | false :: fl, s :: l, K, S => stmU P base s S fun v ups => runI P base fl l K (S.after s v ups)
  | [], s :: l, K, S => stmU P base s S fun v ups => runI P base [] l K (S.after s v ups)

/-- The deferred calls of a frame are marks of loops that have ended, with nothing behind them. -/
def Marks (n : Nat) (c : Cx) : List Deferred → Prop
  | [] => True
  | d :: ds => (∃ D, d = { target := .collected D, args := #[] } ∧ n ≤ D ∧ c.w.heap[D]? = some (.deferred (some [])) ∧ (∀ h, c.ρ h ≠ some D) ∧ ¬ c.I D ∧ ∀ d' ∈ ds, d'.target ≠ .collected D) ∧ Marks n c ds
theorem Marks.mono {n : Nat} {c c' : Cx} (hx : Ext c c') : ∀ {ds : List Deferred}, Marks n c ds → Marks n c' ds
  | [], _ => trivial
  | _ :: _, ⟨⟨D, h1, h2, h3, h4, h5, h6⟩, h⟩ => by
    have hD : D < c.w.heap.size := (Array.getElem?_eq_some_iff.1 h3).1
    refine ⟨⟨D, h1, h2, (hx.keep D hD h4).trans h3, fun h hh => ?_, fun hI => ?_, h6⟩, Marks.mono hx h⟩
    · rcases hx.new h D hh with h7 | h7
      · exact h4 h h7
      · omega
    · rcases hx.newI D hI with h7 | h7 | ⟨g, h7⟩
      · exact h5 h7
      · omega
      · exact h4 g h7
/-- The same blocks, fewer handles. -/
theorem Marks.less {n : Nat} {c c' : Cx} (hw : c'.w = c.w) (hρ : ∀ h b, c'.ρ h = some b → ∃ g, c.ρ g = some b) (hI : ∀ b, c'.I b → c.I b ∨ ∃ g, c.ρ g = some b) : ∀ {ds : List Deferred}, Marks n c ds → Marks n c' ds
  | [], _ => trivial
  | _ :: _, ⟨⟨D, h1, h2, h3, h4, h5, h6⟩, h⟩ =>
    ⟨⟨D, h1, h2, by rw [hw]; exact h3, fun h hh => (hρ h D hh).elim fun g hg => h4 g hg, fun hh => (hI D hh).elim h5 fun ⟨g, hg⟩ => h4 g hg, h6⟩, Marks.less hw hρ hI h⟩

/-- The state holds of a frame and a world that have come out of the context c0. -/
def Sat (c0 : Cx) (S : St) (a : Act) (w : World) : Prop :=
  ∃ ρ I, Ok ⟨ρ, I, S.rows, w⟩ ∧ Ext c0 ⟨ρ, I, S.rows, w⟩ ∧ Marks c0.w.heap.size ⟨ρ, I, S.rows, w⟩ a.defers ∧ S.fr.length ≤ a.tmps.size ∧ ∀ i, Rep ⟨ρ, I, S.rows, w⟩ (a.tmps.getD i undef) (nth S.fr i)

theorem nth_setN (l : List V) (i j : Nat) (v : V) : nth (setN l i v) j = if i = j ∧ j < l.length then v else nth l j := by
  induction l generalizing i j with
  | nil => simp [setN, nth]
  | cons x l ih =>
    cases i with
    | zero => cases j <;> simp [setN, nth]
    | succ i =>
      cases j with
      | zero => simp [setN, nth]
      | succ j => simp [setN, nth, ih]

theorem setN_length (l : List V) (i : Nat) (v : V) : (setN l i v).length = l.length := by
  induction l generalizing i with
  | nil => rfl
  | cons x l ih => cases i <;> simp [setN, ih]

theorem nth_none (l : List V) (i : Nat) (h : l.length ≤ i) : nth l i = .any := by
  induction l generalizing i with
  | nil => rfl
  | cons x l ih =>
    cases i with
    | zero => simp at h
    | succ i => exact ih i (by simpa using h)

theorem Sat.put {c0 : Cx} {S : St} {a : Act} {w : World} {ρ : Nat → Option Nat} {I : Nat → Prop} {rows : Rows} (ok : Ok ⟨ρ, I, rows, w⟩) (hx : Ext c0 ⟨ρ, I, rows, w⟩) (hd : Marks c0.w.heap.size ⟨ρ, I, rows, w⟩ a.defers) (hl : S.fr.length ≤ a.tmps.size)
    (hf : ∀ i, Rep ⟨ρ, I, rows, w⟩ (a.tmps.getD i undef) (nth S.fr i)) (dst : Option Nat) {u : Value} {v : V} (hu : Rep ⟨ρ, I, rows, w⟩ u v) : Sat c0 ⟨putV S.fr dst v, rows⟩ (a.put dst u) w := by
  refine ⟨ρ, I, ok, hx, ?_, ?_, fun i => ?_⟩
  · cases dst <;> exact hd
  · cases dst with
    | none => exact hl
    | some d => simp [Act.put, putV, setN_length]; exact hl
  · cases dst with
    | none => exact hf i
    | some d =>
      have := hf i
      simp only [Act.put, putV, nth_setN, Array.getD_eq_getD_getElem?, Array.getElem?_setIfInBounds] at this ⊢
      by_cases hdi : d = i
      · subst hdi
        by_cases hlt : d < S.fr.length
        · have h1 : d < a.tmps.size := by omega
          simp only [hlt, h1, and_self, if_true, Option.getD_some]
          exact hu
        · simp only [hlt, and_false, if_false]
          rw [nth_none _ _ (by omega)]
          exact .any _
      · simp only [hdi, false_and, if_false]
        exact this

end

section
variable {P : Program} {c : Cx}

theorem bare_lift {I : Nat → Prop} {w : World} {u : Value} {v : V} (h : Rep (bare I w) u v) (ρ : Nat → Option Nat) (rows : Rows) : Rep ⟨ρ, I, rows, w⟩ u v := by
  induction h with
  | any v => exact .any v
  | d v x h => exact .d v x h
  | osl sz h n off len cap b o es arr ty fz hrow => simp [bare] at hrow
  | oslVirt sz h hrow => simp [bare] at hrow
  | oslStale v sz h n off len hv hs => rcases hs with hs | ⟨_, _, hs, _⟩ <;> simp [bare] at hs
  | optr sz h n i off b es hrow => simp [bare] at hrow
  | optrStale v sz h n i off hv hs => rcases hs with hs | ⟨_, _, hs, _⟩ <;> simp [bare] at hs
  | oh v h k b o hrow => simp [bare] at hrow
  | agg vs cs hlen hrep ih => exact .agg vs cs hlen ih
  | tup vs cs hlen hrep ih => exact .tup vs cs hlen ih
  | fn f fs cps first cap hf hc hfr hcr ih1 ih2 => exact .fn f fs cps first cap hf hc ih1 ih2

theorem noH1_bare {u : Value} {v : V} (h : Rep c u v) (hn : noH1 v = true) : Rep (bare c.I c.w) u v := by
  cases h with
  | any => exact .any _
  | d _ _ h => exact .d _ _ h
  | _ => simp [noH1] at hn

theorem noH2_bare {u : Value} {v : V} (h : Rep c u v) (hn : noH2 v = true) : Rep (bare c.I c.w) u v := by
  cases h with
  | any => exact .any _
  | d _ _ h => exact .d _ _ h
  | agg vs cs hlen hrep =>
    simp only [noH2, List.all_eq_true] at hn
    exact .agg vs cs hlen fun j v x h1 h2 => noH1_bare (hrep j v x h1 h2) (hn v (List.mem_of_getElem? h1))
  | tup vs cs hlen hrep =>
    simp only [noH2, List.all_eq_true] at hn
    exact .tup vs cs hlen fun j v x h1 h2 => noH1_bare (hrep j v x h1 h2) (hn v (List.mem_of_getElem? h1))
  | fn f fs cps first cap hf hc hfr hcr =>
    simp only [noH2, Bool.and_eq_true, List.all_eq_true] at hn
    exact .fn f fs cps first cap hf hc (fun j v x h1 h2 => noH1_bare (hfr j v x h1 h2) (hn.1 v (List.mem_of_getElem? h1))) (fun j v x h1 h2 => noH1_bare (hcr j v x h1 h2) (hn.2 v (List.mem_of_getElem? h1)))
  | _ => simp [noH2, noH1] at hn

theorem noH_bare {u : Value} {v : V} (h : Rep c u v) (hn : noH v = true) : Rep (bare c.I c.w) u v := by
  cases h with
  | any => exact .any _
  | d _ _ h => exact .d _ _ h
  | agg vs cs hlen hrep =>
    simp only [noH, List.all_eq_true] at hn
    exact .agg vs cs hlen fun j v x h1 h2 => noH2_bare (hrep j v x h1 h2) (hn v (List.mem_of_getElem? h1))
  | tup vs cs hlen hrep =>
    simp only [noH, List.all_eq_true] at hn
    exact .tup vs cs hlen fun j v x h1 h2 => noH2_bare (hrep j v x h1 h2) (hn v (List.mem_of_getElem? h1))
  | fn f fs cps first cap hf hc hfr hcr =>
    simp only [noH, Bool.and_eq_true, List.all_eq_true] at hn
    exact .fn f fs cps first cap hf hc (fun j v x h1 h2 => noH2_bare (hfr j v x h1 h2) (hn.1 v (List.mem_of_getElem? h1))) (fun j v x h1 h2 => noH2_bare (hcr j v x h1 h2) (hn.2 v (List.mem_of_getElem? h1)))
  | _ => simp [noH, noH1] at hn

theorem bareG {I : Nat → Prop} {w : World} (h : GW I w) : OkG (bare I w) := ⟨fun h o hr => by simp [bare] at hr, h⟩
theorem bare_ok (ok : Ok c) : Ok (bare c.I c.w) := ⟨by simp [bare], by simp [bare], by simp [bare], by simp [bare], ok.imm, bareG ok.g.glob⟩

/-- The context with its own blocks seen as data. -/
def seen (c : Cx) : Nat → Prop := fun b => c.I b ∨ ∃ h, c.ρ h = some b

theorem seen_ok (ok : Ok c) : Ok (bare (seen c) c.w) := ⟨by simp [bare], by simp [bare], by simp [bare], by simp [bare], fun b hb => by
  rcases hb with hb | ⟨h, hb⟩
  · exact ok.imm b hb
  · exact (ok.own h b hb).1, bareG (ok.g.glob.mono (fun _ h => .inl h) (fun _ _ => rfl))⟩

theorem bare_mono {I I' : Nat → Prop} {w : World} (hI : ∀ b, I b → I' b) {u : Value} {v : V} (h : Rep (bare I w) u v) : Rep (bare I' w) u v := by
  induction h with
  | any v => exact .any v
  | d v x h => exact .d v x (h.mono hI (fun _ _ => rfl))
  | osl sz h n off len cap b o es arr ty fz hrow => simp [bare] at hrow
  | oslVirt sz h hrow => simp [bare] at hrow
  | oslStale v sz h n off len hv hs => rcases hs with hs | ⟨_, _, hs, _⟩ <;> simp [bare] at hs
  | optr sz h n i off b es hrow => simp [bare] at hrow
  | optrStale v sz h n i off hv hs => rcases hs with hs | ⟨_, _, hs, _⟩ <;> simp [bare] at hs
  | oh v h k b o hrow => simp [bare] at hrow
  | agg vs cs hlen hrep ih => exact .agg vs cs hlen ih
  | tup vs cs hlen hrep ih => exact .tup vs cs hlen ih
  | fn f fs cps first cap hf hc hfr hcr ih1 ih2 => exact .fn f fs cps first cap hf hc ih1 ih2

theorem snapC_repJ (ok : Ok c) {J : Nat → Prop} (hJ : ∀ b, c.I b → J b) {u : Value} {v : V} (h : Rep c u v) (hs : snapCOk c.rows v) (hg : ∀ g ∈ hOf1 v, ∀ b, c.ρ g = some b → J b) : Rep (bare J c.w) u (snapC c.rows v) := by
  cases v with
  | osl sz g n off len =>
    obtain ⟨hle, es, hrow, hn, hd⟩ := hs
    simp only [snapC, hrow]
    rcases rep_osl h ⟨es, hrow, hn⟩ with ⟨rfl, rfl, rfl, rfl, hρ⟩ | ⟨cap, b, o, arr, ty, fz, rfl, hρ, hb, ho, hcap, hlc, hlen⟩
    · have hes : es = [] := List.eq_nil_of_length_eq_zero hn
      subst hes
      exact .d _ _ (.slNil _)
    · obtain ⟨arr', ty', fz', hb', hfz, hc⟩ := row_cells ok hrow hρ
      rw [hb] at hb'; injection hb' with hb'; injection hb' with e1 e2 e3; subst e1 e2 e3
      have hll : (((es.drop off).take len).map (·.map toD)).length = len := by simp; omega
      by_cases hl0 : len = 0
      · subst hl0
        simp only [List.take_zero, List.map_nil]
        exact .d _ _ (.slEmp _ _ _)
      · have ho' := ho.resolve_right (by omega)
        subst ho'
        have key : ∀ (i j : Nat) (e : List D) (v : D), (((es.drop off).take len).map (·.map toD))[i]? = some e → e[j]? = some v →
            ∃ x, arr[off * sz + (i * sz + j)]? = some x ∧ RepD J c.w x v := by
          intro i j e v h1 h2
          simp only [List.getElem?_map] at h1
          obtain ⟨e0, h3, rfl⟩ := Option.map_eq_some_iff.1 h1
          rw [List.getElem?_take] at h3
          split at h3
          · rw [List.getElem?_drop] at h3
            simp only [List.getElem?_map] at h2
            obtain ⟨v0, h4, rfl⟩ := Option.map_eq_some_iff.1 h2
            obtain ⟨x, hx, hr⟩ := hc.2.2 _ _ _ _ h3 h4
            refine ⟨x, by rw [Nat.add_mul, Nat.add_assoc] at hx; exact hx, ?_⟩
            have hdv := hd e0 (List.mem_of_getElem? h3) v0 (List.mem_of_getElem? h4)
            cases v0 with
            | d y =>
              cases hr with | d _ _ hr =>
              exact hr.mono (hJ) (fun _ _ => rfl)
            | _ => simp [isD] at hdv
          · cases h3
        have hrep := RepD.sl (I := J) (w := c.w) sz (((es.drop off).take len).map (·.map toD)) b (off * sz) cap (fun i j => arr.getD (off * sz + (i * sz + j)) undef) (by omega) (hg g (by simp [hOf1]) b hρ)
          (fun e he => by
            obtain ⟨e0, h0, rfl⟩ := List.mem_map.1 he
            simpa using (hc.1 e0 (List.mem_of_mem_drop (List.mem_of_mem_take h0))).1)
          (fun i e j v h1 h2 => by
            obtain ⟨x, hx, _⟩ := key i j e v h1 h2
            rw [cell_of hb, hx]
            simp [Array.getD_eq_getD_getElem?, hx])
          (fun i e j v h1 h2 => by
            obtain ⟨x, hx, hr⟩ := key i j e v h1 h2
            simpa [Array.getD_eq_getD_getElem?, hx] using hr)
        rw [hll] at hrep
        exact .d _ _ hrep
  | any => exact .any _
  | d x => exact bare_mono (hJ) (noH1_bare h rfl)
  | optr sz g n i off =>
    obtain ⟨es, e, hrow, hn, he, hle, hd⟩ := hs
    obtain ⟨b, hρ, rfl⟩ := rep_optr h ⟨es, hrow, hn⟩
    obtain ⟨arr, ty, fz, hb, hfz, hc⟩ := row_cells ok hrow hρ
    simp only [snapC, hrow, he]
    have key : ∀ (j : Nat) (y : D), ((e.drop off).map toD)[j]? = some y → ∃ x, arr[i * sz + (off + j)]? = some x ∧ RepD J c.w x y := by
      intro j y h2
      simp only [List.getElem?_map, List.getElem?_drop] at h2
      obtain ⟨v0, h4, rfl⟩ := Option.map_eq_some_iff.1 h2
      obtain ⟨u, hu, hr⟩ := hc.2.2 _ _ _ _ he h4
      refine ⟨u, hu, ?_⟩
      have hdv := hd v0 (List.mem_of_getElem? h4)
      cases v0 with
      | d y =>
        cases hr with | d _ _ hr =>
        exact hr.mono hJ (fun _ _ => rfl)
      | _ => simp [isD] at hdv
    refine .d _ _ (RepD.ptr (I := J) (w := c.w) ((e.drop off).map toD) b (i * sz + off) (fun j => arr.getD (i * sz + (off + j)) undef) (hg g (by simp [hOf1]) b hρ) (fun j v h1 => ?_) (fun j v h1 => ?_))
    · obtain ⟨x, hx, _⟩ := key j v h1
      rw [cell_of hb, Nat.add_assoc, hx]
      simp [Array.getD_eq_getD_getElem?, hx]
    · obtain ⟨x, hx, hr⟩ := key j v h1
      simpa [Array.getD_eq_getD_getElem?, hx] using hr
  | agg cs => exact bare_mono hJ (noH_bare h hs)
  | tup cs => exact bare_mono hJ (noH_bare h hs)
  | fn f a b => exact bare_mono hJ (noH_bare h hs)

theorem snapV_repJ (ok : Ok c) {J : Nat → Prop} (hJ : ∀ b, c.I b → J b) {u : Value} {v : V} (h : Rep c u v) (hs : snapOk c.rows v) (hg : ∀ g ∈ hAll v, ∀ b, c.ρ g = some b → J b) : Rep (bare J c.w) u (snapV c.rows v) := by
  cases v with
  | agg cs =>
    cases h with | agg vs _ hlen hrep =>
    refine .agg vs _ (by simpa using hlen) fun j v x h1 h2 => ?_
    simp only [List.getElem?_map] at h1
    obtain ⟨v0, h3, rfl⟩ := Option.map_eq_some_iff.1 h1
    exact snapC_repJ ok hJ (hrep j v0 x h3 h2) (hs v0 (List.mem_of_getElem? h3)) fun g hh => hg g (by simp only [hAll, List.mem_flatMap]; exact ⟨v0, List.mem_of_getElem? h3, hh⟩)
  | osl => exact snapC_repJ ok hJ h hs hg
  | any => exact .any _
  | d x => exact bare_mono (hJ) (noH1_bare h rfl)
  | optr => exact snapC_repJ ok hJ h hs hg
  | tup vs => exact bare_mono (hJ) (noH_bare h hs)
  | fn f a b =>
    cases h with | fn _ fs cps _ _ hf hc hfr hcr =>
    refine .fn f fs cps _ _ (by simpa using hf) (by simpa using hc) (fun j v x h1 h2 => ?_) (fun j v x h1 h2 => ?_)
    · simp only [List.getElem?_map] at h1
      obtain ⟨v0, h3, rfl⟩ := Option.map_eq_some_iff.1 h1
      exact snapC_repJ ok hJ (hfr j v0 x h3 h2) (hs.1 v0 (List.mem_of_getElem? h3)) fun g hh => hg g (by simp only [hAll, List.mem_flatMap, List.mem_append]; exact ⟨v0, .inl (List.mem_of_getElem? h3), hh⟩)
    · simp only [List.getElem?_map] at h1
      obtain ⟨v0, h3, rfl⟩ := Option.map_eq_some_iff.1 h1
      exact snapC_repJ ok hJ (hcr j v0 x h3 h2) (hs.2 v0 (List.mem_of_getElem? h3)) fun g hh => hg g (by simp only [hAll, List.mem_flatMap, List.mem_append]; exact ⟨v0, .inr (List.mem_of_getElem? h3), hh⟩)

theorem snapV_rep (ok : Ok c) {u : Value} {v : V} (h : Rep c u v) (hs : snapOk c.rows v) : Rep (bare (seen c) c.w) u (snapV c.rows v) :=
  snapV_repJ ok (fun b hb => .inl hb) h hs fun g _ b hb => .inr ⟨g, hb⟩

theorem scal1_rep {c c' : Cx} {u : Value} {v : V} (h : Rep c u v) (hs : scal1 v = true) : Rep c' u v := by
  cases h with
  | d _ _ h =>
    cases h <;> first
      | (simp [scal1] at hs; done)
      | exact .d _ _ (.int _ _)
      | exact .d _ _ (.bool _)
      | exact .d _ _ (.str _)
  | _ => simp [scal1] at hs

theorem scal_rep {c c' : Cx} {u : Value} {v : V} (h : Rep c u v) (hs : scal v = true) : Rep c' u v := by
  cases v with
  | tup vs =>
    cases h with | tup us _ hlen hrep =>
    simp only [scal, List.all_eq_true] at hs
    exact .tup us vs hlen fun j v x h1 h2 => scal1_rep (hrep j v x h1 h2) (hs v (List.mem_of_getElem? h1))
  | _ => exact scal1_rep h hs

/-- Behind a call that has kept all that was there. -/
theorem back_ok (ok : Ok c) {I' : Nat → Prop} {w' : World} (hx : Ext (bare c.I c.w) (bare I' w')) (ok' : Ok (bare I' w')) : Ok ⟨c.ρ, I', c.rows, w'⟩ ∧ Ext c ⟨c.ρ, I', c.rows, w'⟩ := by
  have hkeep : ∀ b, b < c.w.heap.size → w'.heap[b]? = c.w.heap[b]? := fun b hb => hx.keep b hb (by simp [bare])
  have hsz : c.w.heap.size ≤ w'.heap.size := hx.size
  have hI : ∀ b, I' b → c.I b ∨ c.w.heap.size ≤ b := fun b hb => by
    rcases hx.newI b hb with h | h | ⟨_, h⟩
    · exact .inl h
    · exact .inr h
    · simp [bare] at h
  have hxx : Ext c ⟨c.ρ, I', c.rows, w'⟩ := ⟨hx.os, hx.tape, hx.output, hx.size, fun b hb _ => hkeep b hb, hx.imm, fun b hb => by
      rcases hI b hb with h | h
      · exact .inl h
      · exact .inr (.inl h), fun _ _ h => .inl h,
    fun h => RowStep.of_eq rfl rfl (fun b hb => hkeep b (ok.own _ _ hb).1)⟩
  refine ⟨⟨ok.inj, fun h b hb => ?_, fun h b sz es hb hr => ?_, ok.virt, ok'.imm, .step ok hxx fun h o hr => ⟨hr, rfl, fun b hb => hkeep b (ok.own h b hb).1⟩⟩, hxx⟩
  · obtain ⟨h1, h2, h3⟩ := ok.own h b hb
    refine ⟨Nat.lt_of_lt_of_le h1 hsz, fun hi => ?_, h3⟩
    rcases hI b hi with h | h
    · exact h2 h
    · omega
  · obtain ⟨arr, ty, fz, h1, h2, h3⟩ := ok.cont h b sz es hb hr
    exact ⟨arr, ty, fz, (hkeep b (ok.own _ _ hb).1).trans h1, h2, h3.mono hxx ok⟩

theorem setRows_kill : ∀ (l : List Nat) (rows : Rows) (g : Nat), (setRows rows (l.map fun h => (h, RowS.dead)))[g]? = if g ∈ l ∧ g < rows.length then some .dead else rows[g]?
  | [], rows, g => by simp [setRows]
  | h :: l, rows, g => by
    simp only [List.map_cons, setRows]
    rw [setRows_kill l, List.length_set, List.getElem?_set]
    by_cases hl : g < rows.length
    · by_cases h2 : g = h
      · subst h2; by_cases h1 : g ∈ l <;> simp [h1, hl]
      · by_cases h1 : g ∈ l <;> simp [h1, hl, h2, Ne.symm h2]
    · have e : rows[g]? = none := List.getElem?_eq_none (by omega)
      by_cases h2 : h = g
      · subst h2; simp [hl]
      · simp [hl, h2]

/-- The rows that are given away are data from then on. -/
def killC (c : Cx) (l : List Nat) : Cx := ⟨fun h => if h ∈ l then none else c.ρ h, fun b => c.I b ∨ ∃ h ∈ l, c.ρ h = some b, setRows c.rows (l.map fun h => (h, RowS.dead)), c.w⟩

theorem kill_ok (ok : Ok c) (l : List Nat) : Ok (killC c l) ∧ Ext c (killC c l) := by
  have hρ : ∀ h b, (killC c l).ρ h = some b → h ∉ l ∧ c.ρ h = some b := fun h b hb => by
    simp only [killC] at hb
    split at hb
    · cases hb
    · rename_i hn; exact ⟨hn, hb⟩
  have hrow : ∀ g, (killC c l).rows[g]? = if g ∈ l ∧ g < c.rows.length then some .dead else c.rows[g]? := fun g => setRows_kill l c.rows g
  have hx : Ext c (killC c l) := by
    refine ⟨rfl, rfl, rfl, Nat.le_refl _, fun _ _ _ => rfl, fun b hb => .inl hb, fun b hb => ?_, fun h b hb => .inl (hρ h b hb).2, fun h => ?_⟩
    · rcases hb with hb | ⟨h, _, hb⟩
      · exact .inl hb
      · exact .inr (.inr ⟨h, hb⟩)
    · by_cases hh : h ∈ l ∧ h < c.rows.length
      · have e := hrow h
        rw [if_pos hh] at e
        unfold RowStep
        rw [e]
        split
        · trivial
        · exact ⟨_, rfl⟩
        · rfl
        · exact .inl rfl
        · exact .inl rfl
      · have e := hrow h
        rw [if_neg hh] at e
        cases hg : c.rows[h]? with
        | none => unfold RowStep; simp only [hg]
        | some r =>
          refine RowStep.of_eq e ?_ (fun _ _ => rfl)
          have hlt := (List.getElem?_eq_some_iff.1 hg).1
          simp only [killC]
          rw [if_neg (fun hm => hh ⟨hm, hlt⟩)]
  refine ⟨⟨fun h h' b h1 h2 => ok.inj h h' b (hρ _ _ h1).2 (hρ _ _ h2).2, fun h b hb => ?_, fun h b sz es hb hr => ?_, fun h sz es hn hr => ?_, fun b hb => ?_, .step ok hx fun h o hr => ?_⟩, hx⟩
  · obtain ⟨hn, hb'⟩ := hρ h b hb
    obtain ⟨h1, h2, r, h3, h4⟩ := ok.own h b hb'
    refine ⟨h1, fun hI => ?_, r, by rw [hrow, if_neg (fun e => hn e.1)]; exact h3, h4⟩
    rcases hI with hI | ⟨g, hg, hI⟩
    · exact h2 hI
    · exact hn (ok.inj _ _ _ hI hb' ▸ hg)
  · obtain ⟨hn, hb'⟩ := hρ h b hb
    rw [hrow, if_neg (fun e => hn e.1)] at hr
    obtain ⟨arr, ty, fz, h1, h2, h3⟩ := ok.cont h b sz es hb' hr
    exact ⟨arr, ty, fz, h1, h2, h3.mono hx ok⟩
  · rw [hrow] at hr
    split at hr
    · cases hr
    · rename_i hh
      have hlt := (List.getElem?_eq_some_iff.1 hr).1
      refine ok.virt h sz es ?_ hr
      simp only [killC] at hn
      rwa [if_neg (fun hm => hh ⟨hm, hlt⟩)] at hn
  · rcases hb with hb | ⟨h, _, hb⟩
    · exact ok.imm b hb
    · exact (ok.own h b hb).1
  · rw [hrow] at hr
    split at hr
    · simp at hr
    · rename_i hh
      have hlt := (List.getElem?_eq_some_iff.1 hr).1
      exact ⟨hr, by simp only [killC]; rw [if_neg (fun hm => hh ⟨hm, hlt⟩)], fun _ _ => rfl⟩

theorem callD_sound (ok : Ok c) {f : FuncId} {vals : List V} {v : V} {args : Array Value} (hargs : RepL c args.toList vals) (h : CallD P f vals c.rows v) :
    Calls P f args c.w fun e w' => ∃ u c', e = .returned u ∧ w' = c'.w ∧ Ok c' ∧ Ext c c' ∧ c'.rows = c.rows ∧ Rep c' u v := by
  rcases h with ⟨hn, h⟩ | ⟨hs, hsc, h⟩
  · refine (h.2 c.I c.w args (bare_ok ok) ⟨hargs.1, fun j v x h1 h2 => noH_bare (hargs.2 j v x h1 h2) (hn v (List.mem_of_getElem? h1))⟩).mono ?_
    rintro e w' ⟨u, I', he, ok', hx, hr⟩
    obtain ⟨h1, h2⟩ := back_ok ok hx ok'
    exact ⟨u, _, he, rfl, h1, h2, rfl, bare_lift hr _ _⟩
  · refine (h.2 (seen c) c.w args (seen_ok ok) ⟨by simpa using hargs.1, fun j v x h1 h2 => ?_⟩).mono ?_
    · simp only [List.getElem?_map] at h1
      obtain ⟨v0, h3, rfl⟩ := Option.map_eq_some_iff.1 h1
      exact snapV_rep ok (hargs.2 j v0 x h3 h2) (hs v0 (List.mem_of_getElem? h3))
    · rintro e w' ⟨u, I', he, ok', hx, hr⟩
      have hx2 : Ext (bare c.I c.w) (bare c.I w') := ⟨hx.os, hx.tape, hx.output, hx.size, fun b hb _ => hx.keep b hb (by simp [bare]), fun _ h => h, fun _ h => .inl h, fun h b hb => by simp [bare] at hb, fun h => by unfold RowStep; simp [bare]⟩
      have ok2 : Ok (bare c.I w') := ⟨by simp [bare], by simp [bare], by simp [bare], by simp [bare], fun b hb => Nat.lt_of_lt_of_le (ok.imm b hb) hx.size, bareG (ok.g.glob.mono (fun _ h => h) fun b hb => hx.keep b (ok.imm b hb) (by simp [bare]))⟩
      obtain ⟨h1, h2⟩ := back_ok ok hx2 ok2
      exact ⟨u, _, he, rfl, h1, h2, rfl, scal_rep hr hsc⟩

theorem callK_sound (ok : Ok c) {f : FuncId} {vals : List V} {v : V} {args : Array Value} (hargs : RepL c args.toList vals) (h : CallK P f vals c.rows v) :
    Calls P f args c.w fun e w' => ∃ u c', e = .returned u ∧ w' = c'.w ∧ Ok c' ∧ Ext c c' ∧ c'.rows = setRows c.rows (kills vals) ∧ Rep c' u v := by
  obtain ⟨hs, h⟩ := h
  obtain ⟨okk, hxk⟩ := kill_ok ok (vals.flatMap hAll)
  refine (h.2 (killC c (vals.flatMap hAll)).I c.w args (bare_ok okk) ⟨by simpa using hargs.1, fun j v x h1 h2 => ?_⟩).mono ?_
  · simp only [List.getElem?_map] at h1
    obtain ⟨v0, h3, rfl⟩ := Option.map_eq_some_iff.1 h1
    exact snapV_repJ ok (fun b hb => .inl hb) (hargs.2 j v0 x h3 h2) (hs v0 (List.mem_of_getElem? h3)) fun g hg b hb => .inr ⟨g, List.mem_flatMap.2 ⟨v0, List.mem_of_getElem? h3, hg⟩, hb⟩
  · rintro e w' ⟨u, I', he, ok', hx, hr⟩
    obtain ⟨h1, h2⟩ := back_ok okk hx ok'
    exact ⟨u, _, he, rfl, h1, hxk.trans h2, rfl, bare_lift hr _ _⟩

theorem renHL_map (h0 : Nat) : ∀ l : List V, renHL h0 l = l.map (renH h0)
  | [] => rfl
  | v :: l => by simp [renHL, renHL_map h0 l]
theorem hZL_mem : ∀ {l : List V}, hZL l = true → ∀ v ∈ l, hZ v = true
  | [], _, v, hv => by simp at hv
  | x :: l, h, v, hv => by
    simp only [hZL, Bool.and_eq_true] at h
    rcases List.mem_cons.1 hv with rfl | hv
    · exact h.1
    · exact hZL_mem h.2 v hv

/-- The context of the callee: one row of the caller's. -/
def subC (c : Cx) (h0 sz : Nat) (es : List (List V)) : Cx := ⟨fun h => if h = 0 then c.ρ h0 else none, c.I, [.live sz es], c.w⟩

theorem ren_down {h0 sz : Nat} {es : List (List V)} (hrow : c.rows[h0]? = some (.live sz es)) {u : Value} {v : V} (h : Rep c u v) : ∀ v', renH h0 v' = v → hZ v' = true → Rep (subC c h0 sz es) u v' := by
  have hst : ∀ {n : Nat}, Stale c.rows h0 n → Stale [RowS.live sz es] 0 n := fun {n} hs => by
    rcases hs with hs | ⟨sz', es', hs, hn⟩
    · rw [hrow] at hs; cases hs
    · rw [hrow] at hs; injection hs with hs; injection hs with e1 e2; subst e1 e2
      exact .inr ⟨sz, es, rfl, hn⟩
  have hlist : ∀ {l l' : List V}, renHL h0 l' = l → hZL l' = true → l'.length = l.length ∧ ∀ (j : Nat) (x' : V), l'[j]? = some x' → ∃ x, l[j]? = some x ∧ renH h0 x' = x ∧ hZ x' = true := by
    intro l l' e hz
    subst e
    rw [renHL_map]
    refine ⟨by simp, fun j x' hx => ⟨renH h0 x', by simp [hx], rfl, hZL_mem hz x' (List.mem_of_getElem? hx)⟩⟩
  induction h with
  | any v => intro v' hv _; cases v' <;> simp [renH] at hv; exact .any _
  | d v x h => intro v' hv _; cases v' <;> simp [renH] at hv; subst hv; exact .d _ _ h
  | osl sz1 h n off len cap b o es1 arr ty fz hr hn hρ hb ho hcap hlc hlen =>
    intro v' hv hz
    cases v' <;> simp [renH] at hv
    obtain ⟨rfl, rfl, rfl, rfl, rfl⟩ := hv
    simp only [hZ, beq_iff_eq] at hz; subst hz
    rw [hrow] at hr; injection hr with hr; injection hr with e1 e2; subst e1 e2
    exact .osl _ 0 _ _ _ cap b o es arr ty fz rfl hn (by simp [subC, hρ]) hb ho hcap hlc hlen
  | oslVirt sz1 h hr hρ =>
    intro v' hv hz
    cases v' <;> simp [renH] at hv
    obtain ⟨rfl, rfl, rfl, rfl, rfl⟩ := hv
    simp only [hZ, beq_iff_eq] at hz; subst hz
    rw [hrow] at hr; injection hr with hr; injection hr with e1 e2; subst e1 e2
    exact .oslVirt _ 0 rfl (by simp [subC, hρ])
  | oslStale v sz1 h n off len hv1 hs =>
    intro v' hv hz
    cases v' <;> simp [renH] at hv
    obtain ⟨rfl, rfl, rfl, rfl, rfl⟩ := hv
    simp only [hZ, beq_iff_eq] at hz; subst hz
    exact .oslStale _ _ 0 _ _ _ hv1 (hst hs)
  | optr sz1 h n i off b es1 hr hn hρ =>
    intro v' hv hz
    cases v' <;> simp [renH] at hv
    obtain ⟨rfl, rfl, rfl, rfl, rfl⟩ := hv
    simp only [hZ, beq_iff_eq] at hz; subst hz
    rw [hrow] at hr; injection hr with hr; injection hr with e1 e2; subst e1 e2
    exact .optr _ 0 _ _ _ b es rfl hn (by simp [subC, hρ])
  | optrStale v sz1 h n i off hv1 hs =>
    intro v' hv hz
    cases v' <;> simp [renH] at hv
    obtain ⟨rfl, rfl, rfl, rfl, rfl⟩ := hv
    simp only [hZ, beq_iff_eq] at hz; subst hz
    exact .optrStale _ _ 0 _ _ _ hv1 (hst hs)
  | oh v h k b o hr =>
    intro v' hv hz
    cases v' <;> simp [renH] at hv
    obtain ⟨rfl, rfl, rfl, rfl, rfl⟩ := hv
    rw [hrow] at hr; cases hr
  | agg vs cs hlen hrep ih =>
    intro v' hv hz
    cases v' <;> simp [renH] at hv
    obtain ⟨h1, h2⟩ := hlist hv (by simpa [hZ] using hz)
    refine .agg vs _ (by omega) fun j x' y hx hy => ?_
    obtain ⟨x, h3, h4, h5⟩ := h2 j x' hx
    exact ih j x y h3 hy x' h4 h5
  | tup vs cs hlen hrep ih =>
    intro v' hv hz
    cases v' <;> simp [renH] at hv
    obtain ⟨h1, h2⟩ := hlist hv (by simpa [hZ] using hz)
    refine .tup vs _ (by omega) fun j x' y hx hy => ?_
    obtain ⟨x, h3, h4, h5⟩ := h2 j x' hx
    exact ih j x y h3 hy x' h4 h5
  | fn f fs cps first cap hf hc hfr hcr ih1 ih2 =>
    intro v' hv hz
    cases v' <;> simp [renH] at hv
    obtain ⟨rfl, hva, hvb⟩ := hv
    simp only [hZ, Bool.and_eq_true] at hz
    obtain ⟨h1, h2⟩ := hlist hva hz.1
    obtain ⟨h3, h4⟩ := hlist hvb hz.2
    refine .fn _ fs cps _ _ (by omega) (by omega) (fun j x' y hx hy => ?_) (fun j x' y hx hy => ?_)
    · obtain ⟨x, h5, h6, h7⟩ := h2 j x' hx
      exact ih1 j x y h5 hy x' h6 h7
    · obtain ⟨x, h5, h6, h7⟩ := h4 j x' hx
      exact ih2 j x y h5 hy x' h6 h7

theorem ren_up {c1 c2 : Cx} {h0 sz : Nat} {es : List (List V)} (h1 : c1.rows = [.live sz es]) (hrow : c2.rows[h0]? = some (.live sz es)) (hρ : c1.ρ 0 = c2.ρ h0) (hI : c2.I = c1.I) (hw : c2.w = c1.w) {u : Value} {v : V} (h : Rep c1 u v) : Rep c2 u (renH h0 v) := by
  have h0' : ∀ {h : Nat} {r : RowS}, c1.rows[h]? = some r → h = 0 ∧ r = .live sz es := fun {h r} hr => by
    rw [h1] at hr
    cases h with
    | zero => simp at hr; exact ⟨rfl, hr.symm⟩
    | succ h => simp at hr
  have hst : ∀ {h n : Nat}, Stale c1.rows h n → Stale c2.rows h0 n := fun {h n} hs => by
    rcases hs with hs | ⟨sz', es', hs, hn⟩
    · have := (h0' hs).2; cases this
    · have := (h0' hs).2; injection this with e1 e2; subst e1 e2
      exact .inr ⟨_, _, hrow, hn⟩
  induction h with
  | any v => exact .any _
  | d v x h => exact .d _ _ (by rw [hI, hw]; exact h)
  | osl sz1 h n off len cap b o es1 arr ty fz hr hn hρ1 hb ho hcap hlc hlen =>
    obtain ⟨rfl, e⟩ := h0' hr; injection e with e1 e2; subst e1 e2
    exact .osl _ h0 _ _ _ cap b o _ arr ty fz hrow hn (by rw [← hρ]; exact hρ1) (by rw [hw]; exact hb) ho hcap hlc hlen
  | oslVirt sz1 h hr hρ1 =>
    obtain ⟨rfl, e⟩ := h0' hr; injection e with e1 e2; subst e1 e2
    exact .oslVirt _ h0 hrow (by rw [← hρ]; exact hρ1)
  | oslStale v sz1 h n off len hv1 hs => exact .oslStale _ _ h0 _ _ _ hv1 (hst hs)
  | optr sz1 h n i off b es1 hr hn hρ1 =>
    obtain ⟨rfl, e⟩ := h0' hr; injection e with e1 e2; subst e1 e2
    exact .optr _ h0 _ _ _ b _ hrow hn (by rw [← hρ]; exact hρ1)
  | optrStale v sz1 h n i off hv1 hs => exact .optrStale _ _ h0 _ _ _ hv1 (hst hs)
  | oh v h k b o hr => have := (h0' hr).2; cases this
  | agg vs cs hlen hrep ih =>
    simp only [renH, renHL_map]
    refine .agg vs _ (by simpa using hlen) fun j x' y hx hy => ?_
    simp only [List.getElem?_map] at hx
    obtain ⟨x, h3, rfl⟩ := Option.map_eq_some_iff.1 hx
    exact ih j x y h3 hy
  | tup vs cs hlen hrep ih =>
    simp only [renH, renHL_map]
    refine .tup vs _ (by simpa using hlen) fun j x' y hx hy => ?_
    simp only [List.getElem?_map] at hx
    obtain ⟨x, h3, rfl⟩ := Option.map_eq_some_iff.1 hx
    exact ih j x y h3 hy
  | fn f fs cps first cap hf hc hfr hcr ih1 ih2 =>
    simp only [renH, renHL_map]
    refine .fn f fs cps _ _ (by simpa using hf) (by simpa using hc) (fun j x' y hx hy => ?_) (fun j x' y hx hy => ?_)
    · simp only [List.getElem?_map] at hx
      obtain ⟨x, h3, rfl⟩ := Option.map_eq_some_iff.1 hx
      exact ih1 j x y h3 hy
    · simp only [List.getElem?_map] at hx
      obtain ⟨x, h3, rfl⟩ := Option.map_eq_some_iff.1 hx
      exact ih2 j x y h3 hy

theorem data_cont {c1 c2 : Cx} {sz : Nat} {es : List (List V)} {arr : Array Value} (hd : dataE es) (hI : ∀ b, c1.I b → c2.I b) (hw : c2.w = c1.w) (h : Cont c1 sz es arr) : Cont c2 sz es arr := by
  refine ⟨h.1, h.2.1, fun i e j v h1 h2 => ?_⟩
  obtain ⟨x, h3, h4⟩ := h.2.2 i e j v h1 h2
  refine ⟨x, h3, ?_⟩
  have := hd e (List.mem_of_getElem? h1) v (List.mem_of_getElem? h2)
  cases v with
  | d y =>
    cases h4 with | d _ _ h4 =>
    exact .d _ _ (h4.mono hI (fun b _ => by rw [hw]))
  | _ => simp [isD] at this

theorem sub_ok (ok : Ok c) {h0 sz : Nat} {es : List (List V)} (hrow : c.rows[h0]? = some (.live sz es)) (hd : dataE es) : Ok (subC c h0 sz es) := by
  have hρ : ∀ h b, (subC c h0 sz es).ρ h = some b → h = 0 ∧ c.ρ h0 = some b := fun h b hb => by
    simp only [subC] at hb
    split at hb
    · rename_i e; exact ⟨e, hb⟩
    · cases hb
  refine ⟨fun h h' b h1 h2 => (hρ _ _ h1).1.trans (hρ _ _ h2).1.symm, fun h b hb => ?_, fun h b sz1 es1 hb hr => ?_, fun h sz1 es1 hn hr => ?_, ok.imm, ⟨fun h o hr => ?_, ok.g.glob⟩⟩
  · obtain ⟨rfl, hb⟩ := hρ h b hb
    obtain ⟨h1, h2, _⟩ := ok.own h0 b hb
    exact ⟨h1, h2, .live sz es, rfl, trivial⟩
  · obtain ⟨rfl, hb⟩ := hρ h b hb
    simp only [subC, List.getElem?_cons_zero] at hr
    injection hr with hr; injection hr with e1 e2; subst e1 e2
    obtain ⟨arr, ty, fz, h1, h2, h3⟩ := ok.cont h0 b sz es hb hrow
    exact ⟨arr, ty, fz, h1, h2, data_cont (c1 := c) hd (fun _ h => h) rfl h3⟩
  · cases h with
    | zero =>
      simp only [subC, List.getElem?_cons_zero] at hr hn
      injection hr with hr; injection hr with e1 e2; subst e1 e2
      exact ok.virt h0 sz es (by simpa using hn) hrow
    | succ h => simp [subC] at hr
  · cases h <;> simp [subC] at hr

theorem callM_sound (ok : Ok c) {f : FuncId} {vals : List V} {v : V} {ups : List (Nat × RowS)} {args : Array Value} (hargs : RepL c args.toList vals) (h : CallMX P f vals c.rows v ups) :
    Calls P f args c.w fun e w' => ∃ u c', e = .returned u ∧ w' = c'.w ∧ Ok c' ∧ Ext c c' ∧ c'.rows = setRows c.rows ups ∧ Rep c' u v := by
  obtain ⟨h0, sz, es, es', vals0, v0, hrow, hd, hd', hl, rfl, hz, hin, hm, rfl, rfl⟩ := h
  have hlt : h0 < c.rows.length := (List.getElem?_eq_some_iff.1 hrow).1
  refine (hm.2 (subC c h0 sz es) args (sub_ok ok hrow hd) rfl ⟨by simpa using hargs.1, fun j x' u h1 h2 => ?_⟩).mono ?_
  · exact ren_down hrow (hargs.2 j (renH h0 x') u (by simp [h1]) h2) x' rfl (hz x' (List.mem_of_getElem? h1))
  · rintro e w' ⟨u, c1, he, hw, ok1, hx, hr1, hrep⟩
    have hstep := hx.rows 0
    unfold RowStep at hstep
    simp only [subC, List.getElem?_cons_zero, hr1] at hstep
    have hρ0 : c1.ρ 0 = c.ρ h0 ∧ ∀ b arr ty fz, c.ρ h0 = some b → c.w.heap[b]? = some (.cells arr ty fz) → ∃ arr' fz', c1.w.heap[b]? = some (.cells arr' ty fz') ∧ arr'.size = arr.size := by
      rcases hstep with hs | ⟨es1, hs, hs2⟩
      · simp at hs
      · simp at hs; subst hs
        rcases hs2 with hs2 | ⟨_, hs3, hs4⟩
        · omega
        · simp only [if_true] at hs3 hs4; exact ⟨hs3, hs4⟩
    have hset : ∀ g, (setRows c.rows [(h0, RowS.live sz es')])[g]? = if g = h0 then some (.live sz es') else c.rows[g]? := fun g => by
      simp only [setRows]
      rw [List.getElem?_set]
      by_cases hg : h0 = g
      · subst hg; simp [hlt]
      · simp [hg, Ne.symm hg]
    have hkeep : ∀ h b, h ≠ h0 → c.ρ h = some b → c1.w.heap[b]? = c.w.heap[b]? := fun h b hne hb => by
      refine hx.keep b (ok.own h b hb).1 fun g hg => ?_
      simp only [subC] at hg
      split at hg
      · exact hne (ok.inj _ _ _ hb hg)
      · cases hg
    have hnewI : ∀ b, c1.I b → c.I b ∨ c.w.heap.size ≤ b ∨ c.ρ h0 = some b := fun b hb => by
      rcases hx.newI b hb with h | h | ⟨g, h⟩
      · exact .inl h
      · exact .inr (.inl h)
      · simp only [subC] at h
        split at h
        · exact .inr (.inr h)
        · cases h
    have hext : Ext c ⟨c.ρ, c1.I, setRows c.rows [(h0, .live sz es')], c1.w⟩ := by
      refine ⟨hx.os, hx.tape, hx.output, hx.size, fun b hb hn => hx.keep b hb fun g hg => ?_, hx.imm, fun b hb => ?_, fun _ _ h => .inl h, fun h => ?_⟩
      · simp only [subC] at hg
        split at hg
        · exact hn _ hg
        · cases hg
      · rcases hnewI b hb with h | h | h
        · exact .inl h
        · exact .inr (.inl h)
        · exact .inr (.inr ⟨_, h⟩)
      · by_cases hh : h = h0
        · subst hh
          unfold RowStep
          rw [hrow]
          refine .inr ⟨es', by rw [hset]; simp, .inr ⟨hl.symm, rfl, fun b arr ty fz hb hb2 => hρ0.2 b arr ty fz hb hb2⟩⟩
        · exact RowStep.of_eq (by rw [hset, if_neg hh]) rfl (fun b hb => hkeep h b hh hb)
    refine ⟨u, ⟨c.ρ, c1.I, setRows c.rows [(h0, .live sz es')], c1.w⟩, he, hw, ⟨ok.inj, fun h b hb => ?_, fun h b sz1 es1 hb hr => ?_, fun h sz1 es1 hn hr => ?_, ok1.imm, .step ok hext fun h o hr => ?_⟩, hext, rfl, ?_⟩
    · obtain ⟨h1, h2, r, h3, h4'⟩ := ok.own h b hb
      refine ⟨Nat.lt_of_lt_of_le h1 hx.size, fun hI => ?_, ?_⟩
      · rcases hnewI b hI with h4 | h4 | h4
        · exact h2 h4
        · omega
        · have := ok.inj _ _ _ hb h4
          subst this
          exact (ok1.own 0 b (by rw [hρ0.1]; exact hb)).2.1 hI
      · by_cases hh : h = h0
        · exact ⟨.live sz es', by rw [hset, if_pos hh], trivial⟩
        · exact ⟨r, by rw [hset, if_neg hh]; exact h3, h4'⟩
    · rw [hset] at hr
      by_cases hh : h = h0
      · subst hh
        rw [if_pos rfl] at hr
        injection hr with hr; injection hr with e1 e2; subst e1 e2
        obtain ⟨arr, ty, fz, h1, h2, h3⟩ := ok1.cont 0 b sz es' (by rw [hρ0.1]; exact hb) (by rw [hr1]; rfl)
        exact ⟨arr, ty, fz, h1, h2, data_cont (c1 := c1) hd' (fun _ h => h) rfl h3⟩
      · rw [if_neg hh] at hr
        obtain ⟨arr, ty, fz, h1, h2, h3⟩ := ok.cont h b sz1 es1 hb hr
        exact ⟨arr, ty, fz, by rw [hkeep h b hh hb]; exact h1, h2, h3.mono hext ok⟩
    · rw [hset] at hr
      by_cases hh : h = h0
      · subst hh
        rw [if_pos rfl] at hr
        injection hr with hr; injection hr with e1 e2; subst e1 e2
        have := ok.virt h sz es hn hrow
        subst this
        exact List.eq_nil_of_length_eq_zero hl
      · rw [if_neg hh] at hr
        exact ok.virt h sz1 es1 hn hr
    · rw [hset] at hr
      split at hr
      · simp at hr
      · rename_i hh
        exact ⟨hr, rfl, fun b hb => hkeep h b hh hb⟩
    · exact ren_up (c2 := ⟨c.ρ, c1.I, setRows c.rows [(h0, .live sz es')], c1.w⟩) hr1 ((hset h0).trans (if_pos rfl)) hρ0.1 rfl rfl hrep

theorem callX_sound (ok : Ok c) {f : FuncId} {vals : List V} {v : V} {ups : List (Nat × RowS)} {args : Array Value} (hargs : RepL c args.toList vals) (h : CallX P f vals c.rows v ups) :
    Calls P f args c.w fun e w' => ∃ u c', e = .returned u ∧ w' = c'.w ∧ Ok c' ∧ Ext c c' ∧ c'.rows = setRows c.rows ups ∧ Rep c' u v := by
  rcases h with ⟨h, rfl⟩ | ⟨h, rfl⟩ | h
  · exact callD_sound ok hargs h
  · exact callK_sound ok hargs h
  · exact callM_sound ok hargs h

theorem CallX.enters {f : FuncId} {vals : List V} {rows : Rows} {v : V} {ups : List (Nat × RowS)} (h : CallX P f vals rows v ups) : Enters P f := by
  rcases h with ⟨⟨_, h, _⟩ | ⟨_, _, h, _⟩, _⟩ | ⟨⟨_, h, _⟩, _⟩ | ⟨_, _, _, _, _, _, _, _, _, _, _, _, _, h, _⟩
  · exact h
  · exact h
  · exact h
  · exact h.1

end
end Go.Vx
