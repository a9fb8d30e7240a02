import Derived.Test.YtkbjfoodikoppaaDoorVxLaw
import Derived.Deep.Slices
import Derived.ChangeArms
import Derived.WideKeyArgs
set_option linter.unusedSectionVars false
set_option linter.unusedSimpArgs false
set_option linter.unusedVariables false
namespace Go.Vx
open Go.ChangeShapes Go.WideShapes Go.ChangeAt Go.RowKit Go.WideElems Go.Deep

/-- The cells of a type, as data. -/
def TyD (P : Program) : Nat → TypeId → List D → Prop
  | 0, _, _ => False
  | n + 1, t, xs => match P.underlying t with
    | some .bool => ∃ b, xs = [.bool b]
    | some (.int k) => ∃ i, xs = [.int k i] ∧ (Lit.int k i).wf = true
    | some .string => ∃ s, xs = [.str s] ∧ s.length ≤ maxLen
    | some (.slice e) => ∃ es, xs = [.sl (P.cellsOf e) es] ∧ es.length ≤ maxLen ∧ ∀ x ∈ es, x.length = P.cellsOf e ∧ TyD P n e x
    | some (.struct fs) => ∃ yss : List (List D), yss.length = fs.size ∧ (∀ (i : Nat) (f : Field) (ys : List D), fs[i]? = some f → yss[i]? = some ys → ys.length = P.cellsOf f.type ∧ TyD P n f.type ys) ∧ xs = yss.flatten
    | _ => False

/-- The fields lie one behind the other. -/
def contig (P : Program) (tot : Nat) : Nat → List Field → Bool
  | o, [] => o == tot
  | o, f :: fs => f.offset == o && contig P tot (o + P.cellsOf f.type) fs

def plainB (P : Program) : Nat → TypeId → Bool
  | 0, _ => false
  | n + 1, t => match P.underlying t with
    | some .bool => true
    | some (.int _) => true
    | some .string => true
    | some (.slice e) => plainB P n e && (0 < P.cellsOf e)
    | some (.struct fs) => contig P (P.cellsOf t) 0 fs.toList && fs.toList.all fun f => plainB P n f.type
    | _ => false

def Cells (w : World) (cs : List Value) (xs : List D) : Prop :=
  xs.length = cs.length ∧ ∀ (j : Nat) (u : Value) (y : D), cs[j]? = some u → xs[j]? = some y → RepD (fun b => b < w.heap.size) w u y

theorem cells_one {w : World} {u : Value} {y : D} (h : RepD (fun b => b < w.heap.size) w u y) : Cells w [u] [y] :=
  ⟨rfl, fun j u' y' h1 h2 => by
    cases j with
    | zero => simp at h1 h2; subst h1 h2; exact h
    | succ j => simp at h1⟩

theorem cells_append {w : World} {c1 c2 : List Value} {x1 x2 : List D} (h1 : Cells w c1 x1) (h2 : Cells w c2 x2) : Cells w (c1 ++ c2) (x1 ++ x2) := by
  refine ⟨by simp [h1.1, h2.1], fun j u y hu hy => ?_⟩
  by_cases hj : j < c1.length
  · rw [List.getElem?_append_left hj] at hu
    rw [List.getElem?_append_left (by rw [h1.1]; exact hj)] at hy
    exact h1.2 j u y hu hy
  · rw [List.getElem?_append_right (by omega)] at hu
    rw [List.getElem?_append_right (by rw [h1.1]; omega), h1.1] at hy
    exact h2.2 _ u y hu hy

theorem cells_fields {P : Program} {w : World} {n : Nat} {cs : List Value} : ∀ (fs : List Field) (o : Nat), contig P cs.length o fs = true → o ≤ cs.length →
    (∀ f ∈ fs, ∃ ys, ys.length = P.cellsOf f.type ∧ TyD P n f.type ys ∧ Cells w ((cs.drop f.offset).take (P.cellsOf f.type)) ys) →
    ∃ yss : List (List D), yss.length = fs.length ∧ (∀ (i : Nat) (f : Field) (ys : List D), fs[i]? = some f → yss[i]? = some ys → ys.length = P.cellsOf f.type ∧ TyD P n f.type ys) ∧ Cells w (cs.drop o) yss.flatten := by
  intro fs
  induction fs with
  | nil =>
    intro o hc ho _
    simp [contig] at hc
    exact ⟨[], rfl, by simp, by simp [hc, Cells]⟩
  | cons f fs ih =>
    intro o hc ho hf
    simp only [contig, Bool.and_eq_true, beq_iff_eq] at hc
    obtain ⟨ho', hc⟩ := hc
    obtain ⟨ys, hl, hy, hcl⟩ := hf f (by simp)
    have hle : o + P.cellsOf f.type ≤ cs.length := by
      have := hcl.1
      simp [hl, ho'] at this
      omega
    obtain ⟨yss, h1, h2, h3⟩ := ih (o + P.cellsOf f.type) hc hle fun g hg => hf g (by simp [hg])
    refine ⟨ys :: yss, by simp [h1], fun i g zs hg hz => ?_, ?_⟩
    · cases i with
      | zero => simp at hg hz; subst hg hz; exact ⟨hl, hy⟩
      | succ i => exact h2 i g zs (by simpa using hg) (by simpa using hz)
    · have e : cs.drop o = (cs.drop o).take (P.cellsOf f.type) ++ cs.drop (o + P.cellsOf f.type) := by
        rw [← List.drop_drop, List.take_append_drop]
      rw [e, List.flatten_cons]
      rw [ho'] at hcl
      exact cells_append hcl h3

theorem cell_lt_spot {w : World} {a : Addr} {v : Value} (h : w.cell? a = some v) : a.block < w.heap.size ∧ a.spot = none := by
  unfold World.cell? at h
  split at h
  · rename_i hh
    refine ⟨(Array.getElem?_eq_some_iff.1 hh).1, ?_⟩
    cases hs : a.spot with
    | none => rfl
    | some _ => simp [hs] at h
  · cases h

theorem trod_cells {H : Type} {enc : TypeId × Value → H} {P : Program} {w : World} {spare : Nat → Bool} {held : Bool} : ∀ (n : Nat) {t : TypeId} {cs : List Value} {fuel : Nat} {x : DataW H × List MemPlace}, plainB P n t = true →
    DataW.trod enc P w 0 spare held fuel t cs = some x → ∃ xs, TyD P n t xs ∧ Cells w cs xs := by
  intro n
  induction n with
  | zero => intro t cs fuel x hp; simp [plainB] at hp
  | succ n ih =>
    intro t cs fuel x hp h
    simp only [plainB] at hp
    unfold TyD
    split at hp
    · rename_i ht
      obtain ⟨b, rfl, _⟩ := DataW.trod_bool ht h
      exact ⟨_, ⟨b, rfl⟩, cells_one (.bool b)⟩
    · rename_i k ht
      obtain ⟨i, rfl, _, hw⟩ := DataW.trod_int ht h
      exact ⟨_, ⟨i, rfl, hw⟩, cells_one (.int k i)⟩
    · rename_i ht
      obtain ⟨s, rfl, _, hw⟩ := DataW.trod_string ht h
      refine ⟨_, ⟨s.data.toList, rfl, by simpa using hw⟩, cells_one ?_⟩
      have := RepD.str (I := fun b => b < w.heap.size) (w := w) s.data.toList
      simpa using this
    · rename_i e ht
      simp only [Bool.and_eq_true, decide_eq_true_eq] at hp
      rcases open_slice ht h with ⟨rfl, _⟩ | ⟨a, len, cap, m, k, Dd, Pl, rfl, _, hl, hm, hmm, _, hx⟩
      · exact ⟨_, ⟨[], rfl, by simp, by simp⟩, cells_one (.slNil _)⟩
      · have hle : len ≤ m := by rw [hmm]; split <;> omega
        obtain ⟨E, hE⟩ := choose_lt (α := List D) (n := len) (p := fun i xs => TyD P n e xs ∧ ∃ cs', w.cells? 0 (a.add (i * P.cellsOf e)) (P.cellsOf e) = some cs' ∧ Cells w cs' xs) (fun i hi => by
          obtain ⟨cs', h1, h2⟩ := hx i (by omega)
          obtain ⟨xs, h3, h4⟩ := ih hp.1 h2
          exact ⟨xs, h3, cs', h1, h4⟩)
        have hlen : ∀ i, i < len → (E i).length = P.cellsOf e := fun i hi => by
          obtain ⟨_, cs', h1, h2⟩ := hE i hi
          rw [h2.1, (World.cells?_some h1).2.1]
        refine ⟨[.sl (P.cellsOf e) ((List.range len).map E)], ⟨_, rfl, by simp; omega, ?_⟩, cells_one ?_⟩
        · intro x hx
          obtain ⟨i, hi, rfl⟩ := List.mem_map.1 hx
          have hi' := List.mem_range.1 hi
          exact ⟨hlen i hi', (hE i hi').1⟩
        · by_cases h0 : len = 0
          · subst h0
            exact .slEmp _ _ _
          · obtain ⟨_, cs0, h1, _⟩ := hE 0 (by omega)
            obtain ⟨_, hl0, hg0⟩ := World.cells?_some h1
            have hg := hg0 0 hp.2
            obtain ⟨v0, hv0⟩ : ∃ v, cs0[0]? = some v := ⟨cs0[0]'(by omega), by simp [List.getElem?_eq_getElem (show 0 < cs0.length by omega)]⟩
            rw [hv0] at hg
            simp [Addr.add] at hg
            obtain ⟨hb, hs⟩ := cell_lt_spot hg
            have hadd' : ∀ (b : Addr) (i : Nat), b.spot = none → b.add i = ⟨b.block, b.off + i, none⟩ := fun b i hb => by
              unfold Addr.add
              split
              · rename_i h; subst h; cases b; simp_all
              · rfl
            have hadd : ∀ i : Nat, a.add i = ⟨a.block, a.off + i, none⟩ := fun i => hadd' a i hs
            have ha : a = ⟨a.block, a.off, none⟩ := by cases a; simp_all
            have hcl : ∀ (i : Nat) (j : Nat) (v : D) (e' : List D), ((List.range len).map E)[i]? = some e' → e'[j]? = some v → ∃ u, w.cell? ⟨a.block, a.off + (i * P.cellsOf e + j), none⟩ = some u ∧ RepD (fun b => b < w.heap.size) w u v := by
              intro i j v e' he hj
              simp only [List.getElem?_map, Option.map_eq_some_iff] at he
              obtain ⟨i', hi', rfl⟩ := he
              obtain ⟨hi'', rfl⟩ := List.getElem?_eq_some_iff.1 hi'
              simp at hi'' hj ⊢
              obtain ⟨_, cs', h1, h2⟩ := hE i hi''
              obtain ⟨_, hl', hg'⟩ := World.cells?_some h1
              have hjl := (List.getElem?_eq_some_iff.1 hj).1
              rw [hlen i hi''] at hjl
              have := hg' j hjl
              rw [hadd, hadd' _ _ rfl] at this
              simp only at this
              rw [show a.off + (i * P.cellsOf e + j) = a.off + i * P.cellsOf e + j by omega, this]
              have hu : cs'[j]? = some (cs'[j]'(by omega)) := List.getElem?_eq_getElem (by omega)
              exact ⟨_, hu, h2.2 j _ _ hu hj⟩
            have key := RepD.sl (I := fun b => b < w.heap.size) (w := w) (P.cellsOf e) ((List.range len).map E) a.block a.off cap
              (fun i j => (w.cell? ⟨a.block, a.off + (i * P.cellsOf e + j), none⟩).getD .nilIface) (by simpa using hl) hb
              (fun x hx => by
                obtain ⟨i, hi, rfl⟩ := List.mem_map.1 hx
                exact hlen i (List.mem_range.1 hi))
              (fun i e' j v he hj => by
                obtain ⟨u, hu, _⟩ := hcl i j v e' he hj
                simp [hu])
              (fun i e' j v he hj => by
                obtain ⟨u, hu, hr⟩ := hcl i j v e' he hj
                simpa [hu] using hr)
            rw [← ha] at key
            simpa using key
    · rename_i fs ht
      simp only [Bool.and_eq_true, List.all_eq_true] at hp
      obtain ⟨hct, hall⟩ := hp
      obtain ⟨xs, k, _, _, hl, hxl, hf⟩ := DataW.trod_struct ht h
      rw [← hl] at hct
      obtain ⟨yss, h1, h2, h3⟩ := cells_fields (w := w) (n := n) fs.toList 0 hct (by omega) fun f hf' => by
        obtain ⟨i, hi, hif⟩ := List.getElem_of_mem hf'
        have hfs : fs[i]? = some f := by simp at hi hif; rw [Array.getElem?_eq_getElem hi, hif]
        have := hf i f hfs
        have hx : xs[i]? = some (xs[i]'(by rw [hxl]; simpa using hi)) := List.getElem?_eq_getElem _
        rw [hx] at this
        obtain ⟨ys, h3, h4⟩ := ih (hall f hf') this
        refine ⟨ys, ?_, h3, h4⟩
        rw [h4.1]
        have hcont : ∀ (fs : List Field) (o : Nat), contig P cs.length o fs = true → ∀ f ∈ fs, o ≤ f.offset ∧ f.offset + P.cellsOf f.type ≤ cs.length := by
          intro fs
          induction fs with
          | nil => simp
          | cons g gs ihg =>
            intro o hc f hf
            simp only [contig, Bool.and_eq_true, beq_iff_eq] at hc
            have hend : ∀ (fs : List Field) (o : Nat), contig P cs.length o fs = true → o ≤ cs.length := by
              intro fs
              induction fs with
              | nil => intro o h; simp [contig] at h; omega
              | cons g gs ih => intro o h; simp only [contig, Bool.and_eq_true, beq_iff_eq] at h; have := ih _ h.2; omega
            rcases List.mem_cons.1 hf with rfl | hf
            · have := hend _ _ hc.2
              omega
            · have := ihg _ hc.2 f hf
              omega
        have := hcont _ _ hct f hf'
        simp
        omega
      refine ⟨yss.flatten, ⟨yss, by simpa using h1, fun i f ys hi => h2 i f ys (by simpa using hi), rfl⟩, ?_⟩
      simpa using h3
    · cases hp

theorem Kept.sameAt {w w' : World} (hk : Kept w w') {p : MemPlace} (hp : p.block < w.heap.size) : w.sameAt w' p := by
  cases p with
  | cell b off =>
    simp only [World.sameAt, World.cell?]
    rw [hk.2.2.2 b hp]
  | map b => exact hk.2.2.2 b hp

theorem kept_args {H : Type} {enc : TypeId × Value → H} {P : Program} {W W' : World} (hl : laidOutB P = true) (hk : Kept W W') {sp : Nat → Bool} : ∀ {ts : List TypeId} {vs : List Value} {ds : List (DataW H)} {ps : List MemPlace},
    (∀ t ∈ ts, P.readableRec t = true ∧ t < P.types.size) → DataW.TrodAll enc P W 0 (fun _ => true) true ts vs ds ps → (∀ p ∈ ps, p.block < W.heap.size) → (∀ p ∈ ps, sp p.block = true) →
    DataW.TrodAll enc P W' 0 sp true ts vs ds ps := by
  intro ts
  induction ts with
  | nil =>
    intro vs ds ps _ h _ _
    obtain ⟨rfl, rfl, rfl⟩ := trodAll_nil h
    exact rfl
  | cons t ts ih =>
    intro vs ds ps ht h hlt hsp
    match vs, ds, h with
    | v :: vs, d :: ds, ⟨p, q, h1, h2, he⟩ =>
      subst he
      refine ⟨p, q, ?_, ih (fun t' h' => ht t' (by simp [h'])) h2 (fun x hx => hlt x (by simp [hx])) (fun x hx => hsp x (by simp [hx])), rfl⟩
      exact Trod_stays hl (ht t (by simp)).1 (ht t (by simp)).2 h1 (fun x hx => hk.sameAt (hlt x (by simp [hx]))) fun x hx => hsp x (by simp [hx])

/-- The data of arguments. -/
def TyAll (P : Program) (n : Nat) : List TypeId → List (List D) → Prop
  | [], [] => True
  | t :: ts, xs :: xss => TyD P n t xs ∧ TyAll P n ts xss
  | _, _ => False

theorem tyAll_cons {P : Program} {n : Nat} {t : TypeId} {ts : List TypeId} {xss : List (List D)} (h : TyAll P n (t :: ts) xss) : ∃ x r, xss = x :: r ∧ TyD P n t x ∧ TyAll P n ts r := by
  cases xss with
  | nil => exact h.elim
  | cons x r => exact ⟨x, r, rfl, h.1, h.2⟩
theorem tyAll_nil {P : Program} {n : Nat} {xss : List (List D)} (h : TyAll P n [] xss) : xss = [] := by
  cases xss with
  | nil => rfl
  | cons x r => exact h.elim

def argV (P : Program) (t : TypeId) (xs : List D) : V :=
  match P.underlying t with
  | some (.struct _) => .agg (xs.map .d)
  | _ => match xs with
    | [x] => .d x
    | _ => .any

def argVs (P : Program) : List TypeId → List (List D) → List V
  | t :: ts, xs :: xss => argV P t xs :: argVs P ts xss
  | _, _ => []

theorem okWide_cells {P : Program} {w : World} {r : Reach} {base : Nat} {t : TypeId} {v : Value} {n : Nat} (hp : plainB P n t = true) (hs : ∀ fs, P.underlying t ≠ some (.struct fs)) (h : Value.okWide P w r base t v) : v.cells.toList = [v] := by
  cases n with
  | zero => simp [plainB] at hp
  | succ n =>
    simp only [plainB] at hp
    split at hp
    · rename_i ht; obtain ⟨b, rfl⟩ := okWide_bool ht h; rfl
    · rename_i k ht; obtain ⟨b, rfl⟩ := okWide_int ht h; rfl
    · rename_i ht; obtain ⟨b, rfl⟩ := okWide_string ht h; rfl
    · rename_i e ht; obtain ⟨a, b, c, rfl⟩ := okWide_slice ht h; rfl
    · rename_i fs ht; exact absurd ht (hs fs)
    · cases hp

theorem args_rep {H : Type} {enc : TypeId × Value → H} {P : Program} {W : World} {r : Reach} {base n : Nat} : ∀ {ts : List TypeId} {vs : List Value} {ds : List (DataW H)} {ps : List MemPlace},
    DataW.TrodAll enc P W 0 (fun _ => true) true ts vs ds ps → (∀ (j : Nat) t v, ts[j]? = some t → vs[j]? = some v → Value.okWide P W r base t v) → (∀ t ∈ ts, plainB P n t = true) →
    ∃ xss, TyAll P n ts xss ∧ RepL (bare (fun b => b < W.heap.size) W) vs (argVs P ts xss) := by
  intro ts
  induction ts with
  | nil =>
    intro vs ds ps h _ _
    obtain ⟨rfl, rfl, rfl⟩ := trodAll_nil h
    exact ⟨[], trivial, repL_nil⟩
  | cons t ts ih =>
    intro vs ds ps h hv ht
    match vs, ds, h with
    | v :: vs, d :: ds, ⟨p, q, ⟨fuel, h1⟩, h2, he⟩ =>
      obtain ⟨xss, h3, h4⟩ := ih h2 (fun j t v h5 h6 => hv (j + 1) t v (by simpa using h5) (by simpa using h6)) (fun t' h' => ht t' (by simp [h']))
      have hpl := ht t (by simp)
      obtain ⟨xs, hx, hcl⟩ := trod_cells n hpl h1
      refine ⟨xs :: xss, ⟨hx, h3⟩, repL_cons ?_ h4⟩
      have hok := hv 0 t v rfl rfl
      have hrep : ∀ (j : Nat) (y : V) (x : Value), (xs.map V.d)[j]? = some y → v.cells[j]? = some x → Rep (bare (fun b => b < W.heap.size) W) x y := fun j y x hy hx' => by
        simp only [List.getElem?_map] at hy
        obtain ⟨y0, hy0, rfl⟩ := Option.map_eq_some_iff.1 hy
        exact .d _ _ (hcl.2 j x y0 (by simpa using hx') hy0)
      unfold argV
      split
      · rename_i fs hfs
        simp only [Value.okWide, hfs] at hok
        obtain ⟨cs, rfl, _, _⟩ := hok
        refine .agg cs _ (by simpa [Value.cells] using hcl.1.symm) hrep
      · rename_i hns
        have hc := okWide_cells hpl (fun fs => hns fs) hok
        rw [hc] at hcl
        split
        · exact .d _ _ (hcl.2 0 v _ rfl rfl)
        · exact .any _

/-- A law that holds of all data of its types. -/
theorem law_calls {H : Type} {enc : TypeId × Value → H} {P : Program} {W : World} {r : Reach} {base n : Nat} {f : FuncId} {ts : List TypeId} {args : Array Value} {ds : List (DataW H)} {ps : List MemPlace}
    (hg : GW (fun b => b < W.heap.size) W) (hk : ∀ xss, TyAll P n ts xss → CallP P f (argVs P ts xss) (.d (.bool true))) (hp : ∀ t ∈ ts, plainB P n t = true)
    (hA : DataW.TrodAll enc P W 0 (fun _ => true) true ts args.toList ds ps) (hv : ∀ (j : Nat) t v, ts[j]? = some t → args.toList[j]? = some v → Value.okWide P W r base t v) :
    Calls P f args W fun e w' => e = .returned (.bool true) ∧ Kept W w' := by
  obtain ⟨xss, h1, h2⟩ := args_rep hA hv hp
  exact law_walk (hk xss h1) hg (fun _ h => h) h2

/-! What data of a type are. -/
section
variable {P : Program} {n : Nat} {t : TypeId} {xs : List D}

theorem ty_bool (ht : P.underlying t = some .bool) (h : TyD P (n + 1) t xs) : ∃ b, xs = [.bool b] := by simpa [TyD, ht] using h
theorem ty_int {k : IntKind} (ht : P.underlying t = some (.int k)) (h : TyD P (n + 1) t xs) : ∃ i, xs = [.int k i] ∧ (Lit.int k i).wf = true := by simpa [TyD, ht] using h
theorem ty_str (ht : P.underlying t = some .string) (h : TyD P (n + 1) t xs) : ∃ s, xs = [.str s] ∧ s.length ≤ maxLen := by simpa [TyD, ht] using h
/-- a slice whose elements are said by a function -/
theorem ty_sl {α : Type} {e : TypeId} {f : α → List D} {ok : α → Prop} (ht : P.underlying t = some (.slice e)) (he : ∀ ys, TyD P n e ys → ∃ a, ys = f a ∧ ok a) (h : TyD P (n + 1) t xs) :
    ∃ l : List α, xs = [.sl (P.cellsOf e) (l.map f)] ∧ l.length ≤ maxLen ∧ ∀ a ∈ l, ok a := by
  simp only [TyD, ht] at h
  obtain ⟨es, rfl, hl, hes⟩ := h
  have : ∀ es : List (List D), (∀ x ∈ es, TyD P n e x) → ∃ l : List α, es = l.map f ∧ ∀ a ∈ l, ok a := by
    intro es
    induction es with
    | nil => intro _; exact ⟨[], rfl, by simp⟩
    | cons x es ih =>
      intro h
      obtain ⟨a, rfl, ha⟩ := he x (h x (by simp))
      obtain ⟨l, rfl, hl⟩ := ih fun y hy => h y (by simp [hy])
      exact ⟨a :: l, rfl, fun b hb => by
        rcases List.mem_cons.1 hb with rfl | hb
        · exact ha
        · exact hl b hb⟩
  obtain ⟨l, rfl, hl2⟩ := this es fun x hx => (hes x hx).2
  exact ⟨l, rfl, by simpa using hl, hl2⟩
theorem ty_struct {fs : Array Field} (ht : P.underlying t = some (.struct fs)) (h : TyD P (n + 1) t xs) : ∃ yss : List (List D), yss.length = fs.size ∧ (∀ (i : Nat) (f : Field) (ys : List D), fs[i]? = some f → yss[i]? = some ys → ys.length = P.cellsOf f.type ∧ TyD P n f.type ys) ∧ xs = yss.flatten := by
  simpa only [TyD, ht] using h
theorem ty_struct1 {f0 : Field} (ht : P.underlying t = some (.struct #[f0])) (h : TyD P (n + 1) t xs) : TyD P n f0.type xs := by
  obtain ⟨yss, h1, h2, rfl⟩ := ty_struct ht h
  match yss, h1 with
  | [a], _ => simpa using (h2 0 f0 a rfl rfl).2
theorem ty_struct2 {f0 f1 : Field} (ht : P.underlying t = some (.struct #[f0, f1])) (h : TyD P (n + 1) t xs) : ∃ a b, xs = a ++ b ∧ TyD P n f0.type a ∧ TyD P n f1.type b := by
  obtain ⟨yss, h1, h2, rfl⟩ := ty_struct ht h
  match yss, h1 with
  | [a, b], _ => exact ⟨a, b, by simp, (h2 0 f0 a rfl rfl).2, (h2 1 f1 b rfl rfl).2⟩
theorem ty_struct3 {f0 f1 f2 : Field} (ht : P.underlying t = some (.struct #[f0, f1, f2])) (h : TyD P (n + 1) t xs) : ∃ a b c, xs = a ++ b ++ c ∧ TyD P n f0.type a ∧ TyD P n f1.type b ∧ TyD P n f2.type c := by
  obtain ⟨yss, h1, h2, rfl⟩ := ty_struct ht h
  match yss, h1 with
  | [a, b, c], _ => exact ⟨a, b, c, by simp, (h2 0 f0 a rfl rfl).2, (h2 1 f1 b rfl rfl).2, (h2 2 f2 c rfl rfl).2⟩
theorem ty_struct4 {f0 f1 f2 f3 : Field} (ht : P.underlying t = some (.struct #[f0, f1, f2, f3])) (h : TyD P (n + 1) t xs) : ∃ a b c d, xs = a ++ b ++ c ++ d ∧ TyD P n f0.type a ∧ TyD P n f1.type b ∧ TyD P n f2.type c ∧ TyD P n f3.type d := by
  obtain ⟨yss, h1, h2, rfl⟩ := ty_struct ht h
  match yss, h1 with
  | [a, b, c, d], _ => exact ⟨a, b, c, d, by simp, (h2 0 f0 a rfl rfl).2, (h2 1 f1 b rfl rfl).2, (h2 2 f2 c rfl rfl).2, (h2 3 f3 d rfl rfl).2⟩

end

theorem lit_u8 {a : Int} (h : (Lit.int .u8 a).wf = true) : 0 ≤ a ∧ a ≤ 255 := by
  simp [Lit.wf, IntKind.min, IntKind.max, IntKind.signed, IntKind.bits] at h; omega
theorem lit_u64 {a : Int} (h : (Lit.int .u64 a).wf = true) : 0 ≤ a ∧ a ≤ 18446744073709551615 := by
  simp [Lit.wf, IntKind.min, IntKind.max, IntKind.signed, IntKind.bits] at h; omega
theorem lit_i64 {a : Int} (h : (Lit.int .i64 a).wf = true) : -9223372036854775808 ≤ a ∧ a ≤ 9223372036854775807 := by
  simp [Lit.wf, IntKind.min, IntKind.max, IntKind.signed, IntKind.bits] at h; omega
end Go.Vx
