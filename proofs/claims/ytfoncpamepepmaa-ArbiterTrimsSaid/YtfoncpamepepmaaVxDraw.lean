import Derived.Test.YtfoncpamepepmaaVxLoc
set_option linter.unusedSimpArgs false
set_option linter.unusedVariables false
namespace Go.Vx

def compStms (P : Program) (ops : Array Oper) : List Oper → Nat → Option (List AStm)
  | [], _ => some []
  | o :: l, n => (compStm P ops o n).bind fun s => (compStms P ops l (if s.makes then n + 1 else n)).map fun r => s :: r

/-- How many rows the statements make. -/
def nMakes : List AStm → Nat
  | [] => 0
  | s :: l => (if s.makes then 1 else 0) + nMakes l

section
variable {P : Program} {ops : Array Oper} {Q : Exit → Act → World → Prop} {c0 : Cx} {base : Nat}

theorem seq_sound : ∀ (l : List Oper) (n : Nat) (sl : List AStm) (K : St → Prop) (S : St) (a : Act) (w : World), compStms P ops l n = some sl → runW P base sl K S → Sat c0 S a w →
    (∀ S' a' w', K S' → Sat c0 S' a' w' → Q .normal a' w') → wpList P ops Q l a w
  | [], n, sl, K, S, a, w, hc, hw, hs, hk => by
    injection hc with hc; subst hc
    exact hk S a w hw hs
  | o :: l, n, sl, K, S, a, w, hc, hw, hs, hk => by
    obtain ⟨s, h1, hc⟩ := Option.bind_eq_some_iff.1 hc
    obtain ⟨r, h2, rfl⟩ := Option.map_eq_some_iff.1 hc
    obtain ⟨v, ups, hst, hrest⟩ := stm_det hw
    have := stm_sound (K' := wpList P ops Q l) (Q := Q) h1 hst hs (fun a' w' hs' => seq_sound l _ r K _ a' w' h2 hrest hs' hk)
    unfold wpList
    split
    · rename_i hw'; rw [if_pos hw'] at this; exact .inl this
    · rename_i hw'; rw [if_neg hw'] at this; exact this

theorem seqI_sound : ∀ (l : List Oper) (n : Nat) (fl : List Bool) (sl : List AStm) (K : St → Prop) (S : St) (a : Act) (w : World), compStms P ops l n = some sl → runI P base fl sl K S → Sat c0 S a w →
    (∀ S' a' w', K S' → Sat c0 S' a' w' → Q .normal a' w') → wpList P ops Q l a w
  | [], n, fl, sl, K, S, a, w, hc, hw, hs, hk => by
    injection hc with hc; subst hc
    exact hk S a w (by cases fl <;> simpa [runI] using hw) hs
  | o :: l, n, fl, sl, K, S, a, w, hc, hw, hs, hk => by
    obtain ⟨s, h1, hc⟩ := Option.bind_eq_some_iff.1 hc
    obtain ⟨r, h2, rfl⟩ := Option.map_eq_some_iff.1 hc
    have plain : ∀ fl', (stmU P base s S fun v ups => runI P base fl' r K (S.after s v ups)) → wpList P ops Q (o :: l) a w := fun fl' hw => by
      obtain ⟨v, ups, hst, hrest⟩ := stm_det hw
      have := stm_sound (K' := wpList P ops Q l) (Q := Q) h1 hst hs (fun a' w' hs' => seqI_sound l _ fl' r K _ a' w' h2 hrest hs' hk)
      unfold wpList
      split
      · rename_i hw'; rw [if_pos hw'] at this; exact .inl this
      · rename_i hw'; rw [if_neg hw'] at this; exact this
    match fl, hw with
    | [], hw => exact plain [] hw
    | false :: fl, hw => exact plain fl hw
    | true :: fl, hw =>
      have := inl_sound (K' := wpList P ops Q l) (Q := Q) h1 hw hs (fun v rows' a' w' hkk hs' => seqI_sound l _ fl r K _ a' w' h2 hkk hs' hk)
      unfold wpList
      split
      · rename_i hw'; rw [if_pos hw'] at this; exact .inl this
      · rename_i hw'; rw [if_neg hw'] at this; exact this

theorem compStms_get : ∀ (l : List Oper) (n : Nat) (sl : List AStm), compStms P ops l n = some sl → sl.length = l.length ∧ ∀ (i : Nat) (o : Oper), l[i]? = some o → ∃ s n', sl[i]? = some s ∧ compStm P ops o n' = some s
  | [], n, sl, hc => by
    injection hc with hc; subst hc
    exact ⟨rfl, fun i o h => by simp at h⟩
  | o :: l, n, sl, hc => by
    obtain ⟨s, h1, hc⟩ := Option.bind_eq_some_iff.1 hc
    obtain ⟨r, h2, rfl⟩ := Option.map_eq_some_iff.1 hc
    obtain ⟨h3, h4⟩ := compStms_get l _ r h2
    refine ⟨by simp [h3], fun i o' h => ?_⟩
    cases i with
    | zero => simp at h; subst h; exact ⟨s, n, rfl, h1⟩
    | succ i => exact h4 i o' (by simpa using h)

def disj (a b : List Nat) : Bool := a.all fun x => !b.contains x

/-- May the statement i (with its foot and what it wrote) and a later one stand in either order? -/
def compat (acc : List (List Nat × List Nat)) (pre : List Nat) (F W : List Nat) : Bool :=
  acc.zipIdx.all fun (p, j) => pre.contains j || (disj p.2 F && disj W p.1)

def runD (P : Program) (base : Nat) : List (AStm × List Nat) → List (List Nat × List Nat) → (St → Prop) → St → Prop
  | [], _, K, S => K S
  | (s, pre) :: l, acc, K, S => stmU P base s S fun v ups =>
    compat acc pre (s.foot base S.fr) (ups.map (·.1)) = true ∧ (ups.map (·.1)).all (s.foot base S.fr).contains = true ∧ runD P base l (acc ++ [(s.foot base S.fr, ups.map (·.1))]) K (S.after s v ups)

abbrev Tr := List (V × List (Nat × RowS))

/-- The state ahead of the statement k. -/
def stAt (S : St) (sl : List (AStm × List Nat)) (tr : Tr) : Nat → St
  | 0 => S
  | k + 1 => match sl[k]?, tr[k]? with
    | some s, some p => (stAt S sl tr k).after s.1 p.1 p.2
    | _, _ => stAt S sl tr k

theorem stAt_cons (S : St) (x : AStm × List Nat) (sl : List (AStm × List Nat)) (p : V × List (Nat × RowS)) (tr : Tr) (k : Nat) : stAt S (x :: sl) (p :: tr) (k + 1) = stAt (S.after x.1 p.1 p.2) sl tr k := by
  induction k with
  | zero => rfl
  | succ k ih => rw [stAt, ih]; simp [stAt]

theorem compat_spec {acc : List (List Nat × List Nat)} {pre F W : List Nat} (h : compat acc pre F W = true) {j : Nat} {p : List Nat × List Nat} (hj : acc[j]? = some p) (hp : j ∉ pre) :
    (∀ x ∈ p.2, x ∉ F) ∧ ∀ x ∈ W, x ∉ p.1 := by
  unfold compat at h
  rw [List.all_eq_true] at h
  have hm : (p, j) ∈ acc.zipIdx := List.mk_mem_zipIdx_iff_getElem?.2 hj
  have := h _ hm
  simp only [Bool.or_eq_true, Bool.and_eq_true, List.contains_iff_mem, hp, false_or] at this
  obtain ⟨h1, h2⟩ := this
  simp only [disj, List.all_eq_true, Bool.not_eq_true', List.contains_eq_mem, decide_eq_false_iff_not] at h1 h2
  exact ⟨h1, h2⟩

theorem runD_trace : ∀ (sl : List (AStm × List Nat)) (acc : List (List Nat × List Nat)) (K : St → Prop) (S : St), runD P base sl acc K S →
    ∃ (tr : Tr) (A : List (List Nat × List Nat)), tr.length = sl.length ∧ A.length = sl.length ∧ K (stAt S sl tr sl.length) ∧
      ∀ (k : Nat) (x : AStm × List Nat), sl[k]? = some x → ∃ p, tr[k]? = some p ∧ StepOK P base x.1 (stAt S sl tr k) p.1 p.2 ∧ A[k]? = some (x.1.foot base (stAt S sl tr k).fr, p.2.map (·.1)) ∧
        (∀ g ∈ p.2.map (·.1), g ∈ x.1.foot base (stAt S sl tr k).fr) ∧
        ∀ (j : Nat) (q : List Nat × List Nat), j < acc.length + k → (acc ++ A)[j]? = some q → j ∉ x.2 → (∀ g ∈ q.2, g ∉ x.1.foot base (stAt S sl tr k).fr) ∧ ∀ g ∈ p.2.map (·.1), g ∉ q.1
  | [], acc, K, S, h => ⟨[], [], rfl, rfl, h, fun k x hx => by simp at hx⟩
  | (s, pre) :: sl, acc, K, S, h => by
    obtain ⟨v, ups, hst, hcm, hsub, hrest⟩ := stm_det h
    obtain ⟨tr, A, h1, h2, h3, h4⟩ := runD_trace sl _ K _ hrest
    refine ⟨(v, ups) :: tr, (s.foot base S.fr, ups.map (·.1)) :: A, by simp [h1], by simp [h2], ?_, fun k x hx => ?_⟩
    · simp only [List.length_cons]
      rw [stAt_cons]; exact h3
    · cases k with
      | zero =>
        simp at hx; subst hx
        refine ⟨(v, ups), rfl, hst, rfl, fun g hg => by have := List.all_eq_true.1 hsub g hg; simpa [stAt] using this, fun j q hj hq hp => ?_⟩
        rw [List.getElem?_append_left (by simpa using hj)] at hq
        exact compat_spec hcm hq hp
      | succ k =>
        obtain ⟨p, e1, e2, e3, e4, e5⟩ := h4 k x (by simpa using hx)
        refine ⟨p, by simpa using e1, by rw [stAt_cons]; exact e2, by rw [stAt_cons]; simpa using e3, by rw [stAt_cons]; exact e4, fun j q hj hq hp => ?_⟩
        rw [stAt_cons]
        exact e5 j q (by simp; omega) (by simpa using hq) hp

/-- The slots of statements that no edge orders lie apart. -/
def indep (x y : AStm) : Bool :=
  (match x.dst with | some d => !y.reads.contains d && y.dst != some d | none => true) && (match y.dst with | some d => !x.reads.contains d | none => true)

def slotsOk (sl : List (AStm × List Nat)) : Bool :=
  sl.zipIdx.all fun (y, j) => sl.zipIdx.all fun (x, i) => !(decide (i < j)) || y.2.contains i || indep x.1 y.1

/-- The forerunners of each operation, by the edges that bind. -/
def preOf (pres : List (List Nat)) (o : Oper) : List Nat :=
  (o.after.toList.filter (Region.binds .any)).flatMap fun e => e.on :: (pres[e.on]?.getD [])

def presOf : List Oper → List (List Nat) → List (List Nat)
  | [], acc => acc
  | o :: l, acc => presOf l (acc ++ [(preOf acc o).eraseDups])

def preOk (l : List Oper) (pres : List (List Nat)) : Bool :=
  l.zipIdx.all fun (o, j) => (pres[j]?.getD []).all fun i => o.after.toList.any fun e => Region.binds .any e && (e.on == i || (pres[e.on]?.getD []).contains i)

def edgesDown (l : List Oper) : Bool := l.zipIdx.all fun (o, i) => o.after.toList.all fun e => !(Region.binds .any e) || decide (e.on < i)

theorem zip_all {α : Type} {l : List α} {f : α × Nat → Bool} (h : l.zipIdx.all f = true) {i : Nat} {x : α} (hx : l[i]? = some x) : f (x, i) = true :=
  List.all_eq_true.1 h _ (List.mk_mem_zipIdx_iff_getElem?.2 hx)

theorem preOk_spec {l : List Oper} {pres : List (List Nat)} (h : preOk l pres = true) {j : Nat} {o : Oper} (hj : l[j]? = some o) {i : Nat} (hi : i ∈ pres[j]?.getD []) :
    ∃ e ∈ o.after.toList, Region.binds .any e = true ∧ (e.on = i ∨ i ∈ pres[e.on]?.getD []) := by
  have h1 := zip_all h hj
  have h2 := List.all_eq_true.1 h1 i hi
  obtain ⟨e, h3, h4⟩ := List.any_eq_true.1 h2
  simp only [Bool.and_eq_true, Bool.or_eq_true, beq_iff_eq, List.contains_iff_mem] at h4
  exact ⟨e, h3, h4.1, h4.2⟩

theorem edges_spec {l : List Oper} (h : edgesDown l = true) {j : Nat} {o : Oper} (hj : l[j]? = some o) {e : Edge} (he : e ∈ o.after.toList) (hb : Region.binds .any e = true) : e.on < j := by
  have h2 := List.all_eq_true.1 (zip_all h hj) e he
  simpa [hb] using h2

theorem slots_spec {sl : List (AStm × List Nat)} (h : slotsOk sl = true) {i j : Nat} {x y : AStm × List Nat} (hx : sl[i]? = some x) (hy : sl[j]? = some y) (hij : i < j) (hp : i ∉ y.2) :
    (∀ d, x.1.dst = some d → d ∉ y.1.reads ∧ y.1.dst ≠ some d) ∧ ∀ d, y.1.dst = some d → d ∉ x.1.reads := by
  have h1 := zip_all (zip_all h hy) hx
  simp only [Bool.or_eq_true, Bool.not_eq_true', decide_eq_false_iff_not, List.contains_iff_mem, hp, hij, not_true, or_false, false_or, indep, Bool.and_eq_true] at h1
  obtain ⟨h2, h3⟩ := h1
  refine ⟨fun d hd => ?_, fun d hd => ?_⟩
  · rw [hd] at h2; simpa using h2
  · rw [hd] at h3; simpa using h3

/-- How many operations are not yet listed. -/
def unl (n : Nat) (L : Array Bool) : Nat := (List.range n).countP fun i => !L.getD i true

theorem countP_one {p q : Nat → Bool} : ∀ (l : List Nat) (i : Nat), l.Nodup → i ∈ l → p i = true → q i = false → (∀ j, j ≠ i → p j = q j) → l.countP p = l.countP q + 1
  | [], i, _, hi, _, _, _ => by simp at hi
  | x :: l, i, hn, hi, hp, hq, hj => by
    have hn' := List.nodup_cons.1 hn
    by_cases hx : x = i
    · subst hx
      have : l.countP p = l.countP q := List.countP_congr fun y hy => by
        rw [hj y (fun e => hn'.1 (e ▸ hy))]
      simp [hp, hq, this]
    · have hi' : i ∈ l := by
        rcases List.mem_cons.1 hi with h | h
        · exact absurd h.symm hx
        · exact h
      have ih := countP_one l i hn'.2 hi' hp hq hj
      simp only [List.countP_cons, hj x hx, ih]
      omega

theorem unl_set {n i : Nat} {L : Array Bool} (hi : i < n) (hs : L.size = n) (hl : L.getD i true = false) : unl n L = unl n (L.setIfInBounds i true) + 1 := by
  refine countP_one _ i List.nodup_range (List.mem_range.2 hi) (by simp [hl]) ?_ fun j hj => ?_
  · simp [Array.getD_eq_getD_getElem?, hs, hi]
  · simp [Array.getD_eq_getD_getElem?, Ne.symm hj]

theorem nth_get (l : List V) (i : Nat) (h : i < l.length) : l[i]? = some (nth l i) := by
  induction l generalizing i with
  | nil => simp at h
  | cons x l ih =>
    cases i with
    | zero => rfl
    | succ i => simpa [nth] using ih i (by simpa using h)

theorem fr_ext {a b : List V} (hl : a.length = b.length) (h : ∀ i, nth a i = nth b i) : a = b := by
  apply List.ext_getElem?
  intro i
  by_cases hi : i < a.length
  · rw [nth_get a i hi, nth_get b i (by omega), h]
  · rw [List.getElem?_eq_none (by omega), List.getElem?_eq_none (by omega)]

theorem putV_nth (fr : List V) (dst : Option Nat) (v : V) (t : Nat) : nth (putV fr dst v) t = if dst = some t ∧ t < fr.length then v else nth fr t := by
  cases dst with
  | none => simp [putV]
  | some d => simp [putV, nth_setN]

theorem putV_length (fr : List V) (dst : Option Nat) (v : V) : (putV fr dst v).length = fr.length := by
  cases dst <;> simp [putV, setN_length]

theorem setRows_length : ∀ (ups : List (Nat × RowS)) (rows : Rows), (setRows rows ups).length = rows.length
  | [], _ => rfl
  | (h, r) :: ups, rows => by simp [setRows, setRows_length ups]

theorem setRows_other : ∀ (ups : List (Nat × RowS)) (rows : Rows) (g : Nat), g ∉ ups.map (·.1) → (setRows rows ups)[g]? = rows[g]?
  | [], _, _, _ => rfl
  | (h, r) :: ups, rows, g, hg => by
    simp only [List.map_cons, List.mem_cons, not_or] at hg
    rw [setRows, setRows_other ups _ g hg.2, List.getElem?_set_ne (Ne.symm hg.1)]

theorem setRows_same : ∀ (ups : List (Nat × RowS)) (rows rows' : Rows) (g : Nat), rows.length = rows'.length → g ∈ ups.map (·.1) → (setRows rows ups)[g]? = (setRows rows' ups)[g]?
  | [], _, _, _, _, hg => by simp at hg
  | (h, r) :: ups, rows, rows', g, hl, hg => by
    by_cases h2 : g ∈ ups.map (·.1)
    · exact setRows_same ups _ _ g (by simp [hl]) h2
    · have : g = h := by simpa [h2] using hg
      subst this
      simp only [setRows]
      rw [setRows_other ups _ g h2, setRows_other ups _ g h2]
      simp [List.getElem?_set, hl]

end
end Go.Vx
