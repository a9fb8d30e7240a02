import Derived.Test.YtfoncpamepepmaaVxEv
set_option linter.unusedSimpArgs false
set_option linter.unusedVariables false
namespace Go.Vx

def mapO {α β : Type} (f : α → Option β) : List α → Option (List β)
  | [] => some []
  | x :: l => (f x).bind fun y => (mapO f l).map (y :: ·)

def isUn : Option RowS → Bool
  | some .un => true
  | _ => false

def snapCOkX (rows : Rows) : V → Bool
  | .osl sz h n off len => decide (off + len ≤ n) && (match liveX rows h sz n with | some es => es.all (fun e => e.all isD) | none => false)
  | .optr sz h n i off => match liveX rows h sz n with
    | some es => match es[i]? with
      | some e => decide (off ≤ e.length) && e.all isD
      | none => false
    | none => false
  | v => noH v
def snapOkX (rows : Rows) : V → Bool
  | .agg cs => cs.all (snapCOkX rows)
  | .fn _ a b => a.all (snapCOkX rows) && b.all (snapCOkX rows)
  | v => snapCOkX rows v

def callX (call : FuncId → List V → Option V) (f : FuncId) (vals : List V) (rows : Rows) : ResX :=
  if vals.all noH = true then (call f vals).map fun v => (v, [])
  else if vals.all (snapOkX rows) = true then (call f (vals.map (snapV rows))).map fun v => if scal v = true then (v, []) else (v, kills vals)
  else none

def actX (call : FuncId → List V → Option V) (base : Nat) (s : AStm) (S : St) : ResX :=
  match s.act with
  | .op o => if o.makes = true ∧ isUn S.rows[base + s.hi]? = false then none else opX o (Opd.ev S.fr) S.rows (base + s.hi)
  | .call f args =>
    match f.ev S.fr with
    | .fn (.func f) first cap => callX call f (first ++ args.map (Opd.ev S.fr) ++ cap) S.rows
    | _ => none

def stmX (call : FuncId → List V → Option V) (base : Nat) (s : AStm) (S : St) : ResX :=
  match s.guard with
  | none => actX call base s S
  | some (t, want) =>
    match nth S.fr t with
    | .d (.bool b) => if b = want then actX call base s S else some (.tup [], [])
    | .tup [] => some (.tup [], [])
    | _ => none

def runX (call : FuncId → List V → Option V) (base : Nat) : List AStm → St → Option St
  | [], S => some S
  | s :: l, S =>
    match stmX call base s S with
    | some (v, u) => runX call base l (S.after s v u)
    | none => none

def runDX (call : FuncId → List V → Option V) (base : Nat) : List (AStm × List Nat) → List (List Nat × List Nat) → St → Option St
  | [], _, S => some S
  | (s, pre) :: l, acc, S =>
    match stmX call base s S with
    | some (v, u) => if compat acc pre (s.foot base S.fr) (u.map (·.1)) = true ∧ (u.map (·.1)).all (s.foot base S.fr).contains = true then
        runDX call base l (acc ++ [(s.foot base S.fr, u.map (·.1))]) (S.after s v u) else none
    | none => none

def loopX (body : St → Option (AX × St)) : Nat → St → Option (AX × St)
  | 0, _ => none
  | n + 1, S =>
    match body S with
    | some (.normal, S') => loopX body n S'
    | some (.exit i, S') => some (.exit i, S')
    | some (.ret, S') => some (.ret, S')
    | none => none

def evX (call : FuncId → List V → Option V) (n : Nat) : AC → St → Option (AX × St)
  | .skip, S => some (.normal, S)
  | .reg m l, S => (runX call S.rows.length l (S.grow m)).map fun S => (.normal, S)
  | .regD m l, S => (runDX call S.rows.length l [] (S.grow m)).map fun S => (.normal, S)
  | .seq a b, S =>
    match evX call n a S with
    | some (.normal, S') => evX call n b S'
    | some (.exit i, S') => some (.exit i, S')
    | some (.ret, S') => some (.ret, S')
    | none => none
  | .cond c a b, S =>
    match c.ev S.fr with
    | .d (.bool true) => evX call n a S
    | .d (.bool false) => evX call n b S
    | _ => none
  | .block id a, S =>
    match evX call n a S with
    | some (.normal, S') => some (.normal, S')
    | some (.exit i, S') => if i = id then some (.normal, S') else some (.exit i, S')
    | some (.ret, S') => some (.ret, S')
    | none => none
  | .loop a, S => loopX (evX call n a) n S
  | .exit id, S => some (.exit id, S)
  | .ret, S => some (.ret, S)
  | .wk _, _ => none
  | .cut _ _, _ => none
  | .regX _ _ _, _ => none

def retX : List RS → St → Option (List V)
  | [], _ => some []
  | .tmp t :: l, S => (retX l S).map (nth S.fr t :: ·)
  | .cell a agg sz :: l, S => (opX (.load agg sz (.t a)) (Opd.ev S.fr) S.rows 0).bind fun r => (retX l S).map (r.1 :: ·)

def snapX (rows : Rows) : Nat → V → Option D
  | 0, _ => none
  | _ + 1, .d x => some x
  | n + 1, .osl sz h m off len => (liveX rows h sz m).bind fun es => if off + len ≤ m then
      (mapO (fun e => if e.length = sz then mapO (snapX rows n) e else none) ((es.drop off).take len)).map fun xs => .sl sz xs else none
  | n + 1, .optr sz h m i off => (liveX rows h sz m).bind fun es => es[i]?.bind fun e => if off ≤ sz ∧ e.length = sz then (mapO (snapX rows n) (e.drop off)).map fun cs => .ptr cs else none
  | _ + 1, _ => none
def snapBX (rows : Rows) (n : Nat) : V → Option V
  | .agg cs => (mapO (snapX rows n) cs).map fun ds => .agg (ds.map .d)
  | v => (snapX rows n v).map .d
def snapAX (rows : Rows) (n : Nat) : V → Option V
  | .fn f a b => (mapO (snapBX rows n) a).bind fun a' => (mapO (snapBX rows n) b).map fun b' => .fn f a' b'
  | v => snapBX rows n v
def snapVX (rows : Rows) (n : Nat) : V → Option V
  | .tup cs => (mapO (snapAX rows n) cs).map .tup
  | v => snapAX rows n v

abbrev Tab := FuncId → Option (AC × Nat × List RS)

def fnX (tab : Tab) (pre : FuncId → List V → Option V) (n : Nat) : Nat → FuncId → List V → Option V
  | 0, _, _ => none
  | k + 1, f, vals =>
    match pre f vals with
    | some v => some v
    | none =>
      match tab f with
      | some (ac, nt, rs) =>
        match evX (fnX tab pre n k) n ac ⟨vals ++ List.replicate (nt - vals.length) (.tup []), []⟩ with
        | some (.normal, S) => (retX rs S).bind fun vs => snapVX S.rows 8 (tupOf vs)
        | some (.ret, S) => (retX rs S).bind fun vs => snapVX S.rows 8 (tupOf vs)
        | _ => none
      | none => none

theorem mapO_len {α β : Type} {f : α → Option β} : ∀ {l : List α} {r : List β}, mapO f l = some r → r.length = l.length := by
  intro l
  induction l with
  | nil => intro r h; injection h with h; subst h; rfl
  | cons x l ih =>
    intro r h
    simp only [mapO] at h
    obtain ⟨y, _, h⟩ := Option.bind_eq_some_iff.1 h
    obtain ⟨ys, h2, rfl⟩ := Option.map_eq_some_iff.1 h
    simp [ih h2]
theorem mapO_get {α β : Type} {f : α → Option β} : ∀ {l : List α} {r : List β}, mapO f l = some r → ∀ {i : Nat} {x : α} {y : β}, l[i]? = some x → r[i]? = some y → f x = some y := by
  intro l
  induction l with
  | nil => intro r _ i x y hx; simp at hx
  | cons x l ih =>
    intro r h i a b ha hb
    simp only [mapO] at h
    obtain ⟨y, h1, h⟩ := Option.bind_eq_some_iff.1 h
    obtain ⟨ys, h2, rfl⟩ := Option.map_eq_some_iff.1 h
    cases i with
    | zero => simp at ha hb; subst ha hb; exact h1
    | succ i => exact ih h2 (by simpa using ha) (by simpa using hb)

theorem snapX_ok {rows : Rows} : ∀ (n : Nat) (v : V) {x : D}, snapX rows n v = some x → Snap rows v (.d x) := by
  intro n
  induction n with
  | zero => intro v x h; simp [snapX] at h
  | succ n ih =>
    intro v x h
    cases v with
    | d y => simp only [snapX] at h; injection h with h; subst h; exact .d _
    | osl sz g m off len =>
      simp only [snapX] at h
      obtain ⟨es, h1, h⟩ := Option.bind_eq_some_iff.1 h
      split at h
      · rename_i hc
        obtain ⟨xs, h2, rfl⟩ := Option.map_eq_some_iff.1 h
        have hl := liveX_ok h1
        have hlen := mapO_len h2
        have hget := @mapO_get _ _ _ _ _ h2
        have hxl : xs.length = len := by simp at hlen; omega
        refine .osl sz g m off len es xs hl.1 hl.2 hc hxl (fun x hx => ?_) (fun i j e x v y he hx hv hy => ?_)
        · obtain ⟨i, hi, rfl⟩ := List.getElem_of_mem hx
          have h3 : ((es.drop off).take len)[i]? = some (((es.drop off).take len)[i]'(by omega)) := List.getElem?_eq_getElem (by omega)
          have h4 := hget h3 (List.getElem?_eq_getElem hi)
          split at h4
          · rename_i hz
            rw [mapO_len h4, hz]
          · cases h4
        · have hi : i < len := by have := (List.getElem?_eq_some_iff.1 hx).1; omega
          have h3 : ((es.drop off).take len)[i]? = some e := by
            rw [List.getElem?_take, if_pos hi, List.getElem?_drop]; exact he
          have h4 := hget h3 hx
          split at h4
          · exact ih _ (mapO_get h4 hv hy)
          · cases h4
      · cases h
    | optr sz g m i off =>
      simp only [snapX] at h
      obtain ⟨es, h1, h⟩ := Option.bind_eq_some_iff.1 h
      obtain ⟨e, h2, h⟩ := Option.bind_eq_some_iff.1 h
      split at h
      · rename_i hc
        obtain ⟨cs, h3, rfl⟩ := Option.map_eq_some_iff.1 h
        have hl := liveX_ok h1
        have hlen := mapO_len h3
        simp at hlen
        refine .optr sz g m i off es e cs hl.1 hl.2 h2 (by omega) (fun j v y hv hy => ?_)
        exact ih _ (mapO_get h3 (by rw [List.getElem?_drop]; exact hv) hy)
      · cases h
    | _ => simp [snapX] at h

theorem map_d_get {ds : List D} {j : Nat} {v' : V} (h : (ds.map V.d)[j]? = some v') : ∃ y, ds[j]? = some y ∧ v' = .d y := by
  simp only [List.getElem?_map] at h
  obtain ⟨y, h1, rfl⟩ := Option.map_eq_some_iff.1 h
  exact ⟨y, h1, rfl⟩

theorem snapBX_ok {rows : Rows} {n : Nat} {v v' : V} (h : snapBX rows n v = some v') : Snap rows v v' := by
  cases v with
  | agg cs =>
    simp only [snapBX] at h
    obtain ⟨ds, h1, rfl⟩ := Option.map_eq_some_iff.1 h
    refine .agg cs _ (by simp [mapO_len h1]) fun j v v' hv hv' => ?_
    obtain ⟨y, hy, rfl⟩ := map_d_get hv'
    exact snapX_ok _ _ (mapO_get h1 hv hy)
  | _ => obtain ⟨y, h1, rfl⟩ := Option.map_eq_some_iff.1 h; exact snapX_ok _ _ h1

theorem snapAX_ok {rows : Rows} {n : Nat} {v v' : V} (h : snapAX rows n v = some v') : Snap rows v v' := by
  cases v with
  | fn f a b =>
    simp only [snapAX] at h
    obtain ⟨a', h1, h⟩ := Option.bind_eq_some_iff.1 h
    obtain ⟨b', h2, rfl⟩ := Option.map_eq_some_iff.1 h
    exact .fn f a b _ _ (mapO_len h1).symm (mapO_len h2).symm (fun j v v' hv hv' => snapBX_ok (mapO_get h1 hv hv')) (fun j v v' hv hv' => snapBX_ok (mapO_get h2 hv hv'))
  | _ => exact snapBX_ok h

theorem snapVX_ok {rows : Rows} {n : Nat} {v v' : V} (h : snapVX rows n v = some v') : Snap rows v v' := by
  cases v with
  | tup cs =>
    simp only [snapVX] at h
    obtain ⟨ds, h1, rfl⟩ := Option.map_eq_some_iff.1 h
    exact .tup cs _ (mapO_len h1).symm fun j v v' hv hv' => snapAX_ok (mapO_get h1 hv hv')
  | _ => exact snapAX_ok h

theorem retX_ok : ∀ (l : List RS) {S : St} {vs : List V}, retX l S = some vs → ∀ {K : List V → Prop}, K vs → retW l S K
  | [], S, vs, h, K, hk => by injection h with h; subst h; exact hk
  | .tmp t :: l, S, vs, h, K, hk => by
    simp only [retX] at h
    obtain ⟨vs', h1, rfl⟩ := Option.map_eq_some_iff.1 h
    exact retX_ok l (K := fun vs => K (nth S.fr t :: vs)) h1 hk
  | .cell a agg sz :: l, S, vs, h, K, hk => by
    simp only [retX] at h
    obtain ⟨⟨v, u⟩, h0, h⟩ := Option.bind_eq_some_iff.1 h
    obtain ⟨vs', h1, rfl⟩ := Option.map_eq_some_iff.1 h
    simp only [retW]
    exact opX_ok h0 (retX_ok l (K := fun vs => K (v :: vs)) h1 hk)

section
variable {P : Program} {call : FuncId → List V → Option V} (hcall : ∀ f vals v, call f vals = some v → CallP P f vals v)

theorem snapCOkX_ok {rows : Rows} {v : V} (h : snapCOkX rows v = true) : snapCOk rows v := by
  cases v with
  | osl sz g n off len =>
    simp only [snapCOkX, Bool.and_eq_true, decide_eq_true_eq] at h
    obtain ⟨h1, h2⟩ := h
    split at h2
    · rename_i es he
      refine ⟨h1, es, (liveX_ok he).1, (liveX_ok he).2, fun e hm v hv => ?_⟩
      exact List.all_eq_true.1 (List.all_eq_true.1 h2 e hm) v hv
    · cases h2
  | optr sz g n i off =>
    simp only [snapCOkX] at h
    split at h
    · rename_i es he
      split at h
      · rename_i e hie
        simp only [Bool.and_eq_true, decide_eq_true_eq] at h
        exact ⟨es, e, (liveX_ok he).1, (liveX_ok he).2, hie, h.1, fun v hv => List.all_eq_true.1 h.2 v hv⟩
      · cases h
    · cases h
  | _ => exact h
theorem snapOkX_ok {rows : Rows} {v : V} (h : snapOkX rows v = true) : snapOk rows v := by
  cases v with
  | agg cs => exact fun v hv => snapCOkX_ok (List.all_eq_true.1 h v hv)
  | fn f a b =>
    simp only [snapOkX, Bool.and_eq_true, List.all_eq_true] at h
    exact ⟨fun v hv => snapCOkX_ok (h.1 v hv), fun v hv => snapCOkX_ok (h.2 v hv)⟩
  | osl a b c d e => exact snapCOkX_ok (v := .osl a b c d e) h
  | optr a b c d e => exact snapCOkX_ok (v := .optr a b c d e) h
  | any => exact snapCOkX_ok (rows := rows) (v := .any) h
  | d x => exact snapCOkX_ok (rows := rows) (v := .d x) h
  | tup a => exact snapCOkX_ok (rows := rows) (v := .tup a) h

include hcall

theorem callX_ok {f : FuncId} {vals : List V} {rows : Rows} {v : V} {u : List (Nat × RowS)} (h : callX call f vals rows = some (v, u)) : CallX P f vals rows v u := by
  unfold callX at h
  split at h
  · rename_i hn
    obtain ⟨v', h1, h2⟩ := Option.map_eq_some_iff.1 h
    injection h2 with h2 h3; subst h2 h3
    exact .inl ⟨.inl ⟨fun x hx => List.all_eq_true.1 hn x hx, hcall _ _ _ h1⟩, rfl⟩
  · split at h
    · rename_i hs
      have hs' : ∀ x ∈ vals, snapOk rows x := fun x hx => snapOkX_ok (List.all_eq_true.1 hs x hx)
      obtain ⟨v', h1, h2⟩ := Option.map_eq_some_iff.1 h
      split at h2
      · rename_i hsc
        injection h2 with h2 h3; subst h2 h3
        exact .inl ⟨.inr ⟨hs', hsc, hcall _ _ _ h1⟩, rfl⟩
      · injection h2 with h2 h3; subst h2 h3
        exact .inr (.inl ⟨⟨hs', hcall _ _ _ h1⟩, rfl⟩)
    · cases h

theorem actX_ok {base : Nat} {s : AStm} {S : St} {v : V} {u : List (Nat × RowS)} (h : actX call base s S = some (v, u)) {K : V → List (Nat × RowS) → Prop} (hk : K v u) : actW P base s S K := by
  unfold actX at h; unfold actW
  generalize s.act = ac at h ⊢
  split at h
  · rename_i o
    split at h
    · cases h
    · rename_i hc
      refine ⟨fun hm => ?_, opX_ok h hk⟩
      cases hu : isUn S.rows[base + s.hi]? with
      | false => exact absurd ⟨hm, hu⟩ hc
      | true =>
        unfold isUn at hu
        split at hu
        · assumption
        · cases hu
  · rename_i f args
    simp only [callW]
    generalize f.ev S.fr = fv at h ⊢
    split at h
    · rename_i n first cap e
      exact ⟨v, u, callX_ok hcall h, hk⟩
    · cases h

theorem stmX_ok {base : Nat} {s : AStm} {S : St} {v : V} {u : List (Nat × RowS)} (h : stmX call base s S = some (v, u)) {K : V → List (Nat × RowS) → Prop} (hk : K v u) : stmU P base s S K := by
  unfold stmX at h; unfold stmU
  generalize s.guard = gd at h ⊢
  split at h
  · exact actX_ok hcall h hk
  · rename_i t want
    dsimp only
    generalize nth S.fr t = g at h ⊢
    split at h
    · rename_i b
      split at h
      · rename_i hb; exact ⟨fun _ => actX_ok hcall h hk, fun hn => absurd hb hn⟩
      · rename_i hb
        injection h with h; injection h with h1 h2; subst h1 h2
        exact ⟨fun hn => absurd hn hb, fun _ => hk⟩
    · injection h with h; injection h with h1 h2; subst h1 h2
      exact hk
    · cases h

theorem runX_ok {base : Nat} : ∀ (l : List AStm) {S S' : St}, runX call base l S = some S' → ∀ {K : St → Prop}, K S' → runW P base l K S
  | [], S, S', h, K, hk => by injection h with h; subst h; exact hk
  | s :: l, S, S', h, K, hk => by
    simp only [runX] at h
    split at h
    · rename_i v u he
      exact stmX_ok hcall he (runX_ok l h hk)
    · cases h

theorem runDX_ok {base : Nat} : ∀ (l : List (AStm × List Nat)) (acc : List (List Nat × List Nat)) {S S' : St}, runDX call base l acc S = some S' → ∀ {K : St → Prop}, K S' → runD P base l acc K S
  | [], _, S, S', h, K, hk => by injection h with h; subst h; exact hk
  | (s, pre) :: l, acc, S, S', h, K, hk => by
    simp only [runDX] at h
    split at h
    · rename_i v u he
      split at h
      · rename_i hc
        exact stmX_ok hcall he ⟨hc.1, hc.2, runDX_ok l _ h hk⟩
      · cases h
    · cases h

theorem evX_ok {b0 n : Nat} : ∀ (a : AC) {S S' : St} {e : AX}, evX call n a S = some (e, S') → ∀ {Q : AX → St → Prop}, Q e S' → wpC P b0 a Q S
  | .skip, S, S', e, h, Q, hq => by injection h with h; injection h with h1 h2; subst h1 h2; exact hq
  | .reg m l, S, S', e, h, Q, hq => by
    simp only [evX] at h
    obtain ⟨S1, h1, h2⟩ := Option.map_eq_some_iff.1 h
    injection h2 with h2 h3; subst h2 h3
    exact runX_ok hcall l h1 hq
  | .regD m l, S, S', e, h, Q, hq => by
    simp only [evX] at h
    obtain ⟨S1, h1, h2⟩ := Option.map_eq_some_iff.1 h
    injection h2 with h2 h3; subst h2 h3
    exact runDX_ok hcall l _ h1 hq
  | .seq a b, S, S', e, h, Q, hq => by
    simp only [evX] at h
    unfold wpC
    split at h
    · rename_i S1 h1
      exact evX_ok a h1 (evX_ok b h hq)
    · rename_i i S1 h1
      injection h with h; injection h with h2 h3; subst h2 h3
      exact evX_ok a h1 hq
    · rename_i S1 h1
      injection h with h; injection h with h2 h3; subst h2 h3
      exact evX_ok a h1 hq
    · cases h
  | .cond c a b, S, S', e, h, Q, hq => by
    simp only [evX] at h
    unfold wpC condW
    generalize c.ev S.fr = g at h ⊢
    split at h
    · exact ⟨fun _ => evX_ok a h hq, fun hh => (by cases hh)⟩
    · exact ⟨fun hh => (by cases hh), fun _ => evX_ok b h hq⟩
    · cases h
  | .block id a, S, S', e, h, Q, hq => by
    simp only [evX] at h
    unfold wpC
    split at h
    · rename_i S1 h1
      injection h with h; injection h with h2 h3; subst h2 h3
      exact evX_ok a h1 hq
    · rename_i i S1 h1
      split at h
      · rename_i hi
        injection h with h; injection h with h2 h3; subst h2 h3
        exact evX_ok a h1 (by simpa [hi] using hq)
      · rename_i hi
        injection h with h; injection h with h2 h3; subst h2 h3
        exact evX_ok a h1 (by simpa [hi] using hq)
    · rename_i S1 h1
      injection h with h; injection h with h2 h3; subst h2 h3
      exact evX_ok a h1 hq
    · cases h
  | .loop a, S, S', e, h, Q, hq => by
    simp only [evX] at h
    unfold wpC
    refine ⟨fun m S1 => ∃ e1 S2, loopX (evX call n a) m S1 = some (e1, S2) ∧ Q e1 S2, n, S, fun _ _ _ _ hs => hs, ⟨e, S', h, hq⟩, ?_⟩
    rintro m S1 ⟨e1, S2, h1, hq1⟩
    cases m with
    | zero => simp [loopX] at h1
    | succ m =>
      simp only [loopX] at h1
      split at h1
      · rename_i S3 h3
        exact evX_ok a h3 ⟨m, S3, Nat.lt_succ_self m, fun _ _ _ _ hs => hs, e1, S2, h1, hq1⟩
      · rename_i i S3 h3
        injection h1 with h1; injection h1 with h2 h4; subst h2 h4
        exact evX_ok a h3 hq1
      · rename_i S3 h3
        injection h1 with h1; injection h1 with h2 h4; subst h2 h4
        exact evX_ok a h3 hq1
      · cases h1
  | .wk _, S, S', e, h, Q, hq => by simp [evX] at h
  | .cut _ _, S, S', e, h, Q, hq => by simp [evX] at h
  | .regX _ _ _, S, S', e, h, Q, hq => by simp [evX] at h
  | .exit id, S, S', e, h, Q, hq => by injection h with h; injection h with h1 h2; subst h1 h2; exact hq
  | .ret, S, S', e, h, Q, hq => by injection h with h; injection h with h1 h2; subst h1 h2; exact hq

end

/-- The code that is said of the functions is theirs. -/
def TabOk (P : Program) (tab : Tab) : Prop :=
  ∀ f ac nt rs, tab f = some (ac, nt, rs) → ∀ vals v, wpC P 0 ac (retQ rs v) ⟨vals ++ List.replicate (nt - vals.length) (.tup []), []⟩ → CallP P f vals v

theorem fnX_ok {P : Program} {tab : Tab} (htab : TabOk P tab) {pre : FuncId → List V → Option V} (hpre : ∀ f vals v, pre f vals = some v → CallP P f vals v) (n : Nat) :
    ∀ (k : Nat) (f : FuncId) (vals : List V) (v : V), fnX tab pre n k f vals = some v → CallP P f vals v := by
  intro k
  induction k with
  | zero => intro f vals v h; simp [fnX] at h
  | succ k ih =>
    intro f vals v h
    simp only [fnX] at h
    split at h
    · rename_i v' h1
      injection h with h; subst h
      exact hpre _ _ _ h1
    · split at h
      · rename_i ac nt rs h1
        split at h
        · rename_i S h2
          obtain ⟨vs, h3, h4⟩ := Option.bind_eq_some_iff.1 h
          exact htab _ _ _ _ h1 vals v (evX_ok ih ac h2 (retX_ok rs h3 (snapVX_ok h4)))
        · rename_i S h2
          obtain ⟨vs, h3, h4⟩ := Option.bind_eq_some_iff.1 h
          exact htab _ _ _ _ h1 vals v (evX_ok ih ac h2 (retX_ok rs h3 (snapVX_ok h4)))
        · cases h
      · cases h

def noPre : FuncId → List V → Option V := fun _ _ => none
theorem noPre_ok {P : Program} : ∀ f vals v, noPre f vals = some v → CallP P f vals v := fun _ _ _ h => by cases h

/-- a table as a list -/
def tabOf : List (FuncId × AC × Nat × List RS) → Tab
  | [], _ => none
  | (g, x) :: l, f => if f = g then some x else tabOf l f

def RowOk (P : Program) (f : FuncId) (ac : AC) (nt : Nat) (rs : List RS) : Prop :=
  ∀ vals v, wpC P 0 ac (retQ rs v) ⟨vals ++ List.replicate (nt - vals.length) (.tup []), []⟩ → CallP P f vals v

theorem tabOf_nil {P : Program} : TabOk P (tabOf []) := fun _ _ _ _ h => by cases h
theorem tabOf_cons {P : Program} {f : FuncId} {ac : AC} {nt : Nat} {rs : List RS} {l : List (FuncId × AC × Nat × List RS)} (h : RowOk P f ac nt rs) (hl : TabOk P (tabOf l)) : TabOk P (tabOf ((f, ac, nt, rs) :: l)) := by
  intro g ac' nt' rs' hg
  simp only [tabOf] at hg
  split at hg
  · rename_i e
    injection hg with hg; injection hg with h1 h2; injection h2 with h2 h3
    subst e h1 h2 h3
    exact h
  · exact hl _ _ _ _ hg

end Go.Vx
