import Derived.Test.YtkbjfoodikoppaaDoorVxArg2
import Derived.SizedLaws
import Derived.OpenShut
set_option linter.unusedSectionVars false
set_option linter.unusedSimpArgs false
set_option linter.unusedVariables false
namespace Go.Vx
open Go.ChangeShapes Go.WideShapes Go.ChangeAt Go.RowKit Go.WideElems Go.Deep

/-- The cells of a type, as data; types may hold themselves. -/
def TyR (P : Program) : Nat → TypeId → List D → Prop
  | 0, _, _ => False
  | n + 1, t, xs => match P.underlying t with
    | some .bool => ∃ b, xs = [.bool b]
    | some (.int k) => ∃ i, xs = [.int k i] ∧ (Lit.int k i).wf = true
    | some .string => ∃ s, xs = [.str s] ∧ s.length ≤ reachBytes
    | some (.slice e) => ∃ es, xs = [.sl (P.cellsOf e) es] ∧ es.length * P.bytesOf e ≤ reachBytes ∧ ∀ x ∈ es, x.length = P.cellsOf e ∧ TyR P n e x
    | some (.struct fs) => ∃ yss : List (List D), yss.length = fs.size ∧ (∀ (i : Nat) (f : Field) (ys : List D), fs[i]? = some f → yss[i]? = some ys → ys.length = P.cellsOf f.type ∧ TyR P n f.type ys) ∧ xs = yss.flatten
    | some (.array k e) => xs.length = k ∧ ∀ x ∈ xs, TyR P n e [x]
    | _ => False

theorem cells_fieldsR {P : Program} {w : World} {n : Nat} {cs : List Value} : ∀ (fs : List Field) (o : Nat), contig P cs.length o fs = true → o ≤ cs.length →
    (∀ f ∈ fs, ∃ ys, ys.length = P.cellsOf f.type ∧ TyR P n f.type ys ∧ Cells w ((cs.drop f.offset).take (P.cellsOf f.type)) ys) →
    ∃ yss : List (List D), yss.length = fs.length ∧ (∀ (i : Nat) (f : Field) (ys : List D), fs[i]? = some f → yss[i]? = some ys → ys.length = P.cellsOf f.type ∧ TyR P n f.type ys) ∧ Cells w (cs.drop o) yss.flatten := by
  intro fs
  induction fs with
  | nil =>
    intro o hc ho _
    simp [contig] at hc
    exact ⟨[], rfl, by simp, by simp [hc, Cells]⟩
  | cons f fs ih =>
    intro o hc ho hf
    simp only [contig, Bool.and_eq_true, beq_iff_eq] at hc
    obtain ⟨ho', hc⟩ := hc
    obtain ⟨ys, hl, hy, hcl⟩ := hf f (by simp)
    have hle : o + P.cellsOf f.type ≤ cs.length := by
      have := hcl.1
      simp [hl, ho'] at this
      omega
    obtain ⟨yss, h1, h2, h3⟩ := ih (o + P.cellsOf f.type) hc hle fun g hg => hf g (by simp [hg])
    refine ⟨ys :: yss, by simp [h1], fun i g zs hg hz => ?_, ?_⟩
    · cases i with
      | zero => simp at hg hz; subst hg hz; exact ⟨hl, hy⟩
      | succ i => exact h2 i g zs (by simpa using hg) (by simpa using hz)
    · have e : cs.drop o = (cs.drop o).take (P.cellsOf f.type) ++ cs.drop (o + P.cellsOf f.type) := by
        rw [← List.drop_drop, List.take_append_drop]
      rw [e, List.flatten_cons]
      rw [ho'] at hcl
      exact cells_append hcl h3

theorem weights_mem_all {H : Type} {P : Program} {e : TypeId} : ∀ {l : List (DataW H)} {d : DataW H}, d ∈ l → ∀ n ∈ d.weights P e, n ∈ DataW.weightsAll P e l
  | d0 :: l, d, hd, n, hn => by
    simp only [DataW.weightsAll, List.mem_append]
    rcases List.mem_cons.1 hd with rfl | hd
    · exact Or.inl hn
    · exact Or.inr (weights_mem_all hd n hn)
theorem trod_cellsR {H : Type} {enc : TypeId × Value → H} {P : Program} {w : World} {spare : Nat → Bool} {held : Bool} {S : List TypeId} (hS : recS P S = true) : ∀ (n : Nat) {t : TypeId} {cs : List Value} {fuel : Nat} {x : DataW H × List MemPlace}, t ∈ S → SizeOf.sizeOf x.1 < n → (∀ m ∈ DataW.weights P t x.1, m ≤ reachBytes) →
    DataW.trod enc P w 0 spare held fuel t cs = some x → ∃ xs, TyR P n t xs ∧ Cells w cs xs := by
  intro n
  induction n with
  | zero => intro t cs fuel x _ hz; omega
  | succ n ih =>
    intro t cs fuel x htS hz hb h
    have hp := List.all_eq_true.1 hS t htS
    split at hp
    · rename_i ht
      simp only [TyR, ht]
      obtain ⟨b, rfl, _⟩ := DataW.trod_bool ht h
      exact ⟨_, ⟨b, rfl⟩, cells_one (.bool b)⟩
    · rename_i k ht
      simp only [TyR, ht]
      obtain ⟨i, rfl, _, hw⟩ := DataW.trod_int ht h
      exact ⟨_, ⟨i, rfl, hw⟩, cells_one (.int k i)⟩
    · rename_i ht
      simp only [TyR, ht]
      obtain ⟨s, rfl, rfl, hw⟩ := DataW.trod_string ht h
      refine ⟨_, ⟨s.data.toList, rfl, hb _ (by simp [DataW.weights])⟩, cells_one ?_⟩
      have := RepD.str (I := fun b => b < w.heap.size) (w := w) s.data.toList
      simpa using this
    · rename_i e ht
      simp only [TyR, ht]
      simp only [Bool.and_eq_true, decide_eq_true_eq, List.contains_iff_mem] at hp
      rcases open_slice ht h with ⟨rfl, _⟩ | ⟨a, len, cap, m, k, Dd, Pl, rfl, _, hl, hm, hmm, rfl, hx⟩
      · exact ⟨_, ⟨[], rfl, by simp, by simp⟩, cells_one (.slNil _)⟩
      · have hle : len ≤ m := by rw [hmm]; split <;> omega
        obtain ⟨E, hE⟩ := choose_lt (α := List D) (n := len) (p := fun i xs => TyR P n e xs ∧ ∃ cs', w.cells? 0 (a.add (i * P.cellsOf e)) (P.cellsOf e) = some cs' ∧ Cells w cs' xs) (fun i hi => by
          obtain ⟨cs', h1, h2⟩ := hx i (by omega)
          obtain ⟨xs, h3, h4⟩ := ih hp.1 (by
            have h5 : SizeOf.sizeOf (Dd i) < SizeOf.sizeOf ((List.range len).map Dd) := List.sizeOf_lt_of_mem (List.mem_map.2 ⟨i, List.mem_range.2 hi, rfl⟩)
            simp at hz ⊢
            omega) (fun w hw => hb w (by
              simp only [DataW.weights, ht, List.mem_cons, List.mem_append]
              exact .inr (.inl (weights_mem_all (List.mem_map.2 ⟨i, List.mem_range.2 hi, rfl⟩) w hw)))) h2
          exact ⟨xs, h3, cs', h1, h4⟩)
        have hwt := hb ((((List.range len).map Dd).length + ((List.range (m - len)).map fun j => Dd (len + j)).length) * P.bytesOf e) (by simp [DataW.weights, ht])
        have hlen : ∀ i, i < len → (E i).length = P.cellsOf e := fun i hi => by
          obtain ⟨_, cs', h1, h2⟩ := hE i hi
          rw [h2.1, (World.cells?_some h1).2.1]
        refine ⟨[.sl (P.cellsOf e) ((List.range len).map E)], ⟨_, rfl, Nat.le_trans (Nat.mul_le_mul_right _ (by simp)) hwt, ?_⟩, cells_one ?_⟩
        · intro x hx
          obtain ⟨i, hi, rfl⟩ := List.mem_map.1 hx
          have hi' := List.mem_range.1 hi
          exact ⟨hlen i hi', (hE i hi').1⟩
        · by_cases h0 : len = 0
          · subst h0
            exact .slEmp _ _ _
          · obtain ⟨_, cs0, h1, _⟩ := hE 0 (by omega)
            obtain ⟨_, hl0, hg0⟩ := World.cells?_some h1
            have hg := hg0 0 hp.2
            obtain ⟨v0, hv0⟩ : ∃ v, cs0[0]? = some v := ⟨cs0[0]'(by omega), by simp [List.getElem?_eq_getElem (show 0 < cs0.length by omega)]⟩
            rw [hv0] at hg
            simp [Addr.add] at hg
            obtain ⟨hb, hs⟩ := cell_lt_spot hg
            have hadd' : ∀ (b : Addr) (i : Nat), b.spot = none → b.add i = ⟨b.block, b.off + i, none⟩ := fun b i hb => by
              unfold Addr.add
              split
              · rename_i h; subst h; cases b; simp_all
              · rfl
            have hadd : ∀ i : Nat, a.add i = ⟨a.block, a.off + i, none⟩ := fun i => hadd' a i hs
            have ha : a = ⟨a.block, a.off, none⟩ := by cases a; simp_all
            have hcl : ∀ (i : Nat) (j : Nat) (v : D) (e' : List D), ((List.range len).map E)[i]? = some e' → e'[j]? = some v → ∃ u, w.cell? ⟨a.block, a.off + (i * P.cellsOf e + j), none⟩ = some u ∧ RepD (fun b => b < w.heap.size) w u v := by
              intro i j v e' he hj
              simp only [List.getElem?_map, Option.map_eq_some_iff] at he
              obtain ⟨i', hi', rfl⟩ := he
              obtain ⟨hi'', rfl⟩ := List.getElem?_eq_some_iff.1 hi'
              simp at hi'' hj ⊢
              obtain ⟨_, cs', h1, h2⟩ := hE i hi''
              obtain ⟨_, hl', hg'⟩ := World.cells?_some h1
              have hjl := (List.getElem?_eq_some_iff.1 hj).1
              rw [hlen i hi''] at hjl
              have := hg' j hjl
              rw [hadd, hadd' _ _ rfl] at this
              simp only at this
              rw [show a.off + (i * P.cellsOf e + j) = a.off + i * P.cellsOf e + j by omega, this]
              have hu : cs'[j]? = some (cs'[j]'(by omega)) := List.getElem?_eq_getElem (by omega)
              exact ⟨_, hu, h2.2 j _ _ hu hj⟩
            have key := RepD.sl (I := fun b => b < w.heap.size) (w := w) (P.cellsOf e) ((List.range len).map E) a.block a.off cap
              (fun i j => (w.cell? ⟨a.block, a.off + (i * P.cellsOf e + j), none⟩).getD .nilIface) (by simpa using hl) hb
              (fun x hx => by
                obtain ⟨i, hi, rfl⟩ := List.mem_map.1 hx
                exact hlen i (List.mem_range.1 hi))
              (fun i e' j v he hj => by
                obtain ⟨u, hu, _⟩ := hcl i j v e' he hj
                simp [hu])
              (fun i e' j v he hj => by
                obtain ⟨u, hu, hr⟩ := hcl i j v e' he hj
                simpa [hu] using hr)
            rw [← ha] at key
            simpa using key
    · rename_i fs ht
      simp only [TyR, ht]
      simp only [Bool.and_eq_true, List.all_eq_true] at hp
      obtain ⟨hct, hall⟩ := hp
      obtain ⟨xs, k, _, rfl, hl, hxl, hf⟩ := DataW.trod_struct ht h
      rw [← hl] at hct
      obtain ⟨yss, h1, h2, h3⟩ := cells_fieldsR (w := w) (n := n) fs.toList 0 hct (by omega) fun f hf' => by
        obtain ⟨i, hi, hif⟩ := List.getElem_of_mem hf'
        have hfs : fs[i]? = some f := by simp at hi hif; rw [Array.getElem?_eq_getElem hi, hif]
        have := hf i f hfs
        have hx : xs[i]? = some (xs[i]'(by rw [hxl]; simpa using hi)) := List.getElem?_eq_getElem _
        rw [hx] at this
        obtain ⟨ys, h3, h4⟩ := ih (List.contains_iff_mem.1 (hall f hf')) (by
          have h5 : SizeOf.sizeOf (xs[i]'(by rw [hxl]; simpa using hi)).1 < SizeOf.sizeOf (xs.map (·.1)) := List.sizeOf_lt_of_mem (List.mem_map.2 ⟨_, List.getElem_mem _, rfl⟩)
          simp at hz ⊢
          omega) (fun w hw => hb w (by
            simp only [DataW.weights, ht]
            exact DataW.weights_mem_each (j := i) (t := f.type) (d := (xs[i]'(by rw [hxl]; simpa using hi)).1) (by simp [hfs]) (by rw [List.getElem?_map, hx]; rfl) w hw)) this
        refine ⟨ys, ?_, h3, h4⟩
        rw [h4.1]
        have hcont : ∀ (fs : List Field) (o : Nat), contig P cs.length o fs = true → ∀ f ∈ fs, o ≤ f.offset ∧ f.offset + P.cellsOf f.type ≤ cs.length := by
          intro fs
          induction fs with
          | nil => simp
          | cons g gs ihg =>
            intro o hc f hf
            simp only [contig, Bool.and_eq_true, beq_iff_eq] at hc
            have hend : ∀ (fs : List Field) (o : Nat), contig P cs.length o fs = true → o ≤ cs.length := by
              intro fs
              induction fs with
              | nil => intro o h; simp [contig] at h; omega
              | cons g gs ih => intro o h; simp only [contig, Bool.and_eq_true, beq_iff_eq] at h; have := ih _ h.2; omega
            rcases List.mem_cons.1 hf with rfl | hf
            · have := hend _ _ hc.2
              omega
            · have := ihg _ hc.2 f hf
              omega
        have := hcont _ _ hct f hf'
        simp
        omega
      refine ⟨yss.flatten, ⟨yss, by simpa using h1, fun i f ys hi => h2 i f ys (by simpa using hi), rfl⟩, ?_⟩
      simpa using h3
    · rename_i q e ht
      simp only [TyR, ht]
      simp only [Bool.and_eq_true, beq_iff_eq, List.contains_iff_mem] at hp
      obtain ⟨xs, k, _, rfl, hl, hxl, hf⟩ := DataW.trod_array ht h
      rw [hp.2.2] at hl
      obtain ⟨E, hE⟩ := choose_lt (α := D) (n := q) (p := fun i y => TyR P n e [y] ∧ ∃ u, cs[i]? = some u ∧ RepD (fun b => b < w.heap.size) w u y) (fun i hi => by
        have := hf i hi
        have hx : xs[i]? = some (xs[i]'(by omega)) := List.getElem?_eq_getElem _
        rw [hx, hp.2.1, Nat.mul_one] at this
        obtain ⟨ys, h3, h4⟩ := ih hp.1 (by
          have h5 : SizeOf.sizeOf (xs[i]'(by omega)).1 < SizeOf.sizeOf (xs.map (·.1)) := List.sizeOf_lt_of_mem (List.mem_map.2 ⟨_, List.getElem_mem _, rfl⟩)
          simp at hz ⊢
          omega) (fun w hw => hb w (by
            simp only [DataW.weights, ht]
            exact weights_mem_all (List.mem_map.2 ⟨_, List.getElem_mem _, rfl⟩) w hw)) this
        have hc : (cs.drop i).take 1 = [cs[i]'(by omega)] := by
          rw [List.drop_eq_getElem_cons (by omega)]; rfl
        rw [hc] at h4
        have hl1 := h4.1
        match ys, hl1 with
        | [y], _ => exact ⟨y, h3, _, List.getElem?_eq_getElem (by omega), h4.2 0 _ _ rfl rfl⟩)
      refine ⟨(List.range q).map E, ⟨by simp, fun x hx => ?_⟩, by simp [hl], fun j u y hu hy => ?_⟩
      · obtain ⟨i, hi, rfl⟩ := List.mem_map.1 hx
        exact (hE i (List.mem_range.1 hi)).1
      · simp only [List.getElem?_map, Option.map_eq_some_iff] at hy
        obtain ⟨i', hi', rfl⟩ := hy
        obtain ⟨hi'', rfl⟩ := List.getElem?_eq_some_iff.1 hi'
        simp at hi'' ⊢
        obtain ⟨_, u', h1, h2⟩ := hE j hi''
        rw [h1] at hu; injection hu with hu; subst hu
        exact h2
    · cases hp


/-- The data of arguments. -/
def TyAllR (P : Program) : List TypeId → List (List D) → Prop
  | [], [] => True
  | t :: ts, xs :: xss => (∃ n, TyR P n t xs) ∧ TyAllR P ts xss
  | _, _ => False

theorem tyAllR_cons {P : Program} {t : TypeId} {ts : List TypeId} {xss : List (List D)} (h : TyAllR P (t :: ts) xss) : ∃ x r n, xss = x :: r ∧ TyR P n t x ∧ TyAllR P ts r := by
  cases xss with
  | nil => exact h.elim
  | cons x r => obtain ⟨⟨n, h1⟩, h2⟩ := h; exact ⟨x, r, n, rfl, h1, h2⟩
theorem tyAllR_nil {P : Program} {xss : List (List D)} (h : TyAllR P [] xss) : xss = [] := by
  cases xss with
  | nil => rfl
  | cons x r => exact h.elim

theorem args_repR {H : Type} {enc : TypeId × Value → H} {P : Program} {W : World} {r : Reach} {base : Nat} {S : List TypeId} (hS : recS P S = true) : ∀ {ts : List TypeId} {vs : List Value} {ds : List (DataW H)} {ps : List MemPlace},
    DataW.TrodAll enc P W 0 (fun _ => true) true ts vs ds ps → (∀ (j : Nat) t v, ts[j]? = some t → vs[j]? = some v → Value.okWide P W r base t v) → (∀ t ∈ ts, t ∈ S) → (∀ m ∈ DataW.weightsEach P ts ds, m ≤ reachBytes) →
    ∃ xss, TyAllR P ts xss ∧ RepL (bare (fun b => b < W.heap.size) W) vs (argVsE P ts xss) := by
  intro ts
  induction ts with
  | nil =>
    intro vs ds ps h _ _ _
    obtain ⟨rfl, rfl, rfl⟩ := trodAll_nil h
    exact ⟨[], trivial, repL_nil⟩
  | cons t ts ih =>
    intro vs ds ps h hv ht hb
    match vs, ds, h with
    | v :: vs, d :: ds, ⟨p, q, ⟨fuel, h1⟩, h2, he⟩ =>
      obtain ⟨xss, h3, h4⟩ := ih h2 (fun j t v h5 h6 => hv (j + 1) t v (by simpa using h5) (by simpa using h6)) (fun t' h' => ht t' (by simp [h'])) (fun m hm => hb m (by simp only [DataW.weightsEach, List.mem_append]; exact .inr hm))
      have hpl := ht t (by simp)
      obtain ⟨xs, hx, hcl⟩ := trod_cellsR hS (SizeOf.sizeOf d + 1) hpl (Nat.lt_succ_self _) (fun m hm => hb m (by simp only [DataW.weightsEach, List.mem_append]; exact .inl hm)) h1
      refine ⟨xs :: xss, ⟨⟨_, hx⟩, h3⟩, repL_cons ?_ h4⟩
      have hok := hv 0 t v rfl rfl
      have hrep : ∀ (j : Nat) (y : V) (x : Value), (xs.map V.d)[j]? = some y → v.cells[j]? = some x → Rep (bare (fun b => b < W.heap.size) W) x y := fun j y x hy hx' => by
        simp only [List.getElem?_map] at hy
        obtain ⟨y0, hy0, rfl⟩ := Option.map_eq_some_iff.1 hy
        exact .d _ _ (hcl.2 j x y0 (by simpa using hx') hy0)
      unfold argVE
      split
      · rename_i fs hfs
        simp only [Value.okWide, hfs] at hok
        obtain ⟨cs, rfl, _, _⟩ := hok
        refine .agg cs _ (by simpa [Value.cells] using hcl.1.symm) hrep
      · rename_i k e hfs
        simp only [Value.okWide, hfs] at hok
        obtain ⟨cs, rfl, _, _⟩ := hok
        refine .agg cs _ (by simpa [Value.cells] using hcl.1.symm) hrep
      · rename_i hns hna
        have hc := okWide_cellsE hS hpl (fun fs => hns fs) (fun k e => hna k e) hok
        rw [hc] at hcl
        split
        · exact .d _ _ (hcl.2 0 v _ rfl rfl)
        · exact .any _

/-- A law that holds of all data of its types. -/
theorem law_callsR {H : Type} {enc : TypeId × Value → H} {P : Program} {W : World} {r : Reach} {base : Nat} {S : List TypeId} {f : FuncId} {ts : List TypeId} {args : Array Value} {ds : List (DataW H)} {ps : List MemPlace} (hg : GW (fun b => b < W.heap.size) W) (hS : recS P S = true)
    (hk : ∀ xss, TyAllR P ts xss → CallP P f (argVsE P ts xss) (.d (.bool true))) (hp : ∀ t ∈ ts, t ∈ S)
    (hA : DataW.TrodAll enc P W 0 (fun _ => true) true ts args.toList ds ps) (hv : ∀ (j : Nat) t v, ts[j]? = some t → args.toList[j]? = some v → Value.okWide P W r base t v) (hsz : (DataW.weightsEach P ts ds).all (· ≤ reachBytes) = true) :
    Calls P f args W fun e w' => e = .returned (.bool true) ∧ Kept W w' := by
  obtain ⟨xss, h1, h2⟩ := args_repR hS hA hv hp (fun m hm => by simpa using List.all_eq_true.1 hsz m hm)
  exact law_walk (hk xss h1) hg (fun _ h => h) h2


section
variable {P : Program} {n : Nat} {t : TypeId} {xs : List D}

theorem tr_bool (ht : P.underlying t = some .bool) (h : TyR P n t xs) : ∃ b, xs = [.bool b] := by cases n with | zero => exact h.elim | succ n => simpa [TyR, ht] using h
theorem tr_int {k : IntKind} (ht : P.underlying t = some (.int k)) (h : TyR P n t xs) : ∃ i, xs = [.int k i] ∧ (Lit.int k i).wf = true := by cases n with | zero => exact h.elim | succ n => simpa [TyR, ht] using h
theorem tr_str (ht : P.underlying t = some .string) (h : TyR P n t xs) : ∃ s, xs = [.str s] ∧ s.length ≤ reachBytes := by cases n with | zero => exact h.elim | succ n => simpa [TyR, ht] using h
/-- a slice whose elements are said by a function -/
theorem tr_sl {α : Type} {e : TypeId} {f : α → List D} {ok : α → Prop} (ht : P.underlying t = some (.slice e)) (he : ∀ n ys, TyR P n e ys → ∃ a, ys = f a ∧ ok a) (h : TyR P n t xs) :
    ∃ l : List α, xs = [.sl (P.cellsOf e) (l.map f)] ∧ l.length * P.bytesOf e ≤ reachBytes ∧ ∀ a ∈ l, ok a := by
  cases n with
  | zero => exact h.elim
  | succ n =>
    simp only [TyR, ht] at h
    obtain ⟨es, rfl, hl, hes⟩ := h
    have : ∀ es : List (List D), (∀ x ∈ es, TyR P n e x) → ∃ l : List α, es = l.map f ∧ ∀ a ∈ l, ok a := by
      intro es
      induction es with
      | nil => intro _; exact ⟨[], rfl, by simp⟩
      | cons x es ih =>
        intro h
        obtain ⟨a, rfl, ha⟩ := he n x (h x (by simp))
        obtain ⟨l, rfl, hl⟩ := ih (fun y hy => h y (by simp [hy]))
        refine ⟨a :: l, rfl, fun b hb => ?_⟩
        rcases List.mem_cons.1 hb with rfl | hb
        · exact ha
        · exact hl b hb
    obtain ⟨l, rfl, hl'⟩ := this es (fun x hx => (hes x hx).2)
    exact ⟨l, rfl, by simpa using hl, hl'⟩
/-- any slice -/
theorem tr_one {e : TypeId} (ht : P.underlying t = some (.slice e)) (h : TyR P n t xs) : ∃ d : D, xs = [d] := by
  cases n with
  | zero => exact h.elim
  | succ n => simp only [TyR, ht] at h; obtain ⟨es, rfl, _⟩ := h; exact ⟨_, rfl⟩
theorem tr_struct {fs : Array Field} (ht : P.underlying t = some (.struct fs)) (h : TyR P n t xs) : ∃ (m : Nat) (yss : List (List D)), yss.length = fs.size ∧ (∀ (i : Nat) (f : Field) (ys : List D), fs[i]? = some f → yss[i]? = some ys → ys.length = P.cellsOf f.type ∧ TyR P m f.type ys) ∧ xs = yss.flatten := by
  cases n with
  | zero => exact h.elim
  | succ n => simp only [TyR, ht] at h; exact ⟨n, h⟩
theorem tr_struct1 {f0 : Field} (ht : P.underlying t = some (.struct #[f0])) (h : TyR P n t xs) : ∃ m, TyR P m f0.type xs := by
  obtain ⟨m, yss, h1, h2, rfl⟩ := tr_struct ht h
  match yss, h1 with
  | [a], _ => exact ⟨m, by simpa using (h2 0 f0 a rfl rfl).2⟩
theorem tr_struct2 {f0 f1 : Field} (ht : P.underlying t = some (.struct #[f0, f1])) (h : TyR P n t xs) : ∃ m a b, xs = a ++ b ∧ TyR P m f0.type a ∧ TyR P m f1.type b := by
  obtain ⟨m, yss, h1, h2, rfl⟩ := tr_struct ht h
  match yss, h1 with
  | [a, b], _ => exact ⟨m, a, b, by simp, (h2 0 f0 a rfl rfl).2, (h2 1 f1 b rfl rfl).2⟩
theorem tr_struct3 {f0 f1 f2 : Field} (ht : P.underlying t = some (.struct #[f0, f1, f2])) (h : TyR P n t xs) : ∃ m a b c, xs = a ++ b ++ c ∧ TyR P m f0.type a ∧ TyR P m f1.type b ∧ TyR P m f2.type c := by
  obtain ⟨m, yss, h1, h2, rfl⟩ := tr_struct ht h
  match yss, h1 with
  | [a, b, c], _ => exact ⟨m, a, b, c, by simp, (h2 0 f0 a rfl rfl).2, (h2 1 f1 b rfl rfl).2, (h2 2 f2 c rfl rfl).2⟩
theorem tr_struct4 {f0 f1 f2 f3 : Field} (ht : P.underlying t = some (.struct #[f0, f1, f2, f3])) (h : TyR P n t xs) : ∃ m a b c d, xs = a ++ b ++ c ++ d ∧ TyR P m f0.type a ∧ TyR P m f1.type b ∧ TyR P m f2.type c ∧ TyR P m f3.type d := by
  obtain ⟨m, yss, h1, h2, rfl⟩ := tr_struct ht h
  match yss, h1 with
  | [a, b, c, d], _ => exact ⟨m, a, b, c, d, by simp, (h2 0 f0 a rfl rfl).2, (h2 1 f1 b rfl rfl).2, (h2 2 f2 c rfl rfl).2, (h2 3 f3 d rfl rfl).2⟩
theorem tr_array {k : Nat} {e : TypeId} (ht : P.underlying t = some (.array k e)) (h : TyR P n t xs) : ∃ m, xs.length = k ∧ ∀ x ∈ xs, TyR P m e [x] := by
  cases n with
  | zero => exact h.elim
  | succ n => simp only [TyR, ht] at h; exact ⟨n, h⟩
end
end Go.Vx
