import Derived.Test.YtkbjfoodikoppaaDoorVxDet
import Derived.Scope
set_option linter.unusedSectionVars false
set_option linter.unusedSimpArgs false
set_option linter.unusedVariables false
namespace Go.Vx

inductive AC where
  | skip
  | reg (m : Nat) (l : List AStm)
  | regD (m : Nat) (l : List (AStm × List Nat))
  | seq (a b : AC)
  | cond (c : Opd) (a b : AC)
  | block (id : Nat) (a : AC)
  | loop (a : AC)
  | exit (id : Nat)
  | ret
  /-- ghosts: the state may be said more weakly; the ways meet -/
  | wk (a : AC)
  | cut (a b : AC)
  /-- a region of which some calls are looked into -/
  | regX (m : Nat) (fl : List Bool) (l : List AStm)
  | scope (a : AC)
  | label
  /-- a range over a function: the operand, the parameters, the assignment, the body -/
  | rng (g : Opd) (ps : Array Tmp) (a b : AC)
  deriving Inhabited

def AC.erase : AC → AC
  | .seq a b => .seq a.erase b.erase
  | .cond c a b => .cond c a.erase b.erase
  | .block id a => .block id a.erase
  | .loop a => .loop a.erase
  | .wk a => a.erase
  | .cut a b => .seq a.erase b.erase
  | .regX m _ l => .reg m l
  | .scope a => .scope a.erase
  | .rng g ps a b => .rng g ps a.erase b.erase
  | c => c

def AC.noRng : AC → Bool
  | .seq a b => a.noRng && b.noRng
  | .cond _ a b => a.noRng && b.noRng
  | .block _ a => a.noRng
  | .loop a => a.noRng
  | .wk a => a.noRng
  | .cut a b => a.noRng && b.noRng
  | .scope a => a.noRng
  | .rng _ _ _ _ => false
  | _ => true

inductive AX where
  | normal
  | exit (id : Nat)
  | ret

def compC (P : Program) : Code → Option AC
  | .skip => some .skip
  | .region _ ops false => (compStms P ops ops.toList 0).map fun l => .reg (nMakes l) l
  | .region _ ops true => (compStms P ops ops.toList 0).bind fun l =>
    if P.follows .mixedOrders = true ∧ preOk ops.toList (presOf ops.toList []) = true ∧ (presOf ops.toList []).length = l.length ∧ slotsOk (l.zip (presOf ops.toList [])) = true ∧ edgesDown ops.toList = true then some (.regD (nMakes l) (l.zip (presOf ops.toList []))) else none
  | .seq a b => (compC P a).bind fun a => (compC P b).map fun b => .seq a b
  | .cond c a b => (compOpd c).bind fun c => (compC P a).bind fun a => (compC P b).map fun b => .cond c a b
  | .block id a => (compC P a).map fun a => .block id a
  | .loop a => (compC P a).map fun a => .loop a
  | .exit id => some (.exit id)
  | .ret => some .ret
  | .scope a => (compC P a).map fun a => .scope a
  | .label _ => some .label
  | .rangeFunc g ps a b => (compOpd g).bind fun g => (compC P a).bind fun a => (compC P b).map fun b => .rng g ps a b
  | _ => none

def St.grow (S : St) (m : Nat) : St := ⟨S.fr, S.rows ++ List.replicate m .un⟩

/-- S' says less than S. -/
def Weak (b0 : Nat) (S S' : St) : Prop := ∀ c0 a w, c0.rows.length = b0 → Sat c0 S a w → Sat c0 S' a w

def condW (v : V) (A B : Prop) : Prop :=
  match v with
  | .d (.bool t) => (t = true → A) ∧ (t = false → B)
  | .d .boolU => A ∧ B
  | _ => False

def LoopW (b0 : Nat) (body : (AX → St → Prop) → St → Prop) (Q : AX → St → Prop) (S : St) : Prop :=
  ∃ (I : Nat → St → Prop) (n : Nat) (S' : St), Weak b0 S S' ∧ I n S' ∧ ∀ n S, I n S → body (fun e S' => match e with
    | .normal => ∃ n' S'', n' < n ∧ Weak b0 S' S'' ∧ I n' S''
    | .exit i => Q (.exit i) S'
    | .ret => Q .ret S') S

/-- A round of a range over a function, whose record is the row h. -/
def RoundW (ps : List Nat) (wA wB : Nat → (AX → St → Prop) → St → Prop) (fr : List V) (l : Nat) (L : Loop) (h : Nat) (rows : Rows) (vals : List V) (ups : List (Nat × RowS)) : Prop :=
  rows[h]? = some (.obj (.loop l L)) ∧ ps.length = vals.length ∧ rows.length < 64 ∧ (∀ p ∈ ups, p.1 < 64) ∧
  wA rows.length (fun e S1 => match e with
    | .normal => S1.rows[h]? = some (.obj (.loop l L)) ∧ wB rows.length (fun e S2 => match e with
      | .normal => S2.rows[h]? = some (.obj (.loop l { L with state := .busy })) ∧ ∃ S3, Weak rows.length ⟨S2.fr, S2.rows.set h (.obj (.loop l L))⟩ S3 ∧ S3.rows = setRows rows ups
      | _ => False) ⟨S1.fr, S1.rows.set h (.obj (.loop l { L with state := .busy }))⟩
    | _ => False) ⟨putPs ps vals fr, rows⟩

/-- A range over a function whose code is looked into: the iterator is given what a call of yield does. -/
def RngW (P : Program) (ok : Bool) (ps : List Nat) (wA wB : Nat → (AX → St → Prop) → St → Prop) (gv : V) (Q : AX → St → Prop) (S : St) : Prop :=
  ok = true ∧ ∃ (f : FuncId) (cap : List V) (K : Nat → Loop → V → Rows → Prop), gv = .fn (.func f) [] cap ∧
    (∀ (l : Nat) (L : Loop) (cp : CtxPred), L.state = .ready → L.pending = none →
      (∀ rows vals ups, RoundW ps wA wB S.fr l L S.rows.length rows vals ups → @YldX cp P l vals rows (.d (.bool true)) ups) →
      @InlP cp P f (.fn (.yield l) [] [] :: cap) (S.rows ++ [.obj (.loop l L)]) (K l L)) ∧
    ∀ l L v rows, K l L v rows → rows[S.rows.length]? = some (.obj (.loop l L)) ∧ Q .normal ⟨S.fr, rows.set S.rows.length (.obj (.loop l { L with state := .exhausted }))⟩

def wpC [CtxPred] (P : Program) (b0 : Nat) : AC → (AX → St → Prop) → St → Prop
  | .skip, Q, S => Q .normal S
  | .reg m l, Q, S => runW P S.rows.length l (Q .normal) (S.grow m)
  | .regD m l, Q, S => runD P S.rows.length l [] (Q .normal) (S.grow m)
  | .regX m fl l, Q, S => runI P S.rows.length fl l (Q .normal) (S.grow m)
  | .seq a b, Q, S => wpC P b0 a (fun e S' => match e with | .normal => wpC P b0 b Q S' | .exit i => Q (.exit i) S' | .ret => Q .ret S') S
  | .cond c a b, Q, S => condW (c.ev S.fr) (wpC P b0 a Q S) (wpC P b0 b Q S)
  | .block id a, Q, S => wpC P b0 a (fun e S' => match e with | .normal => Q .normal S' | .exit i => if i = id then Q .normal S' else Q (.exit i) S' | .ret => Q .ret S') S
  | .loop a, Q, S => LoopW b0 (wpC P b0 a) Q S
  | .exit id, Q, S => Q (.exit id) S
  | .ret, Q, S => Q .ret S
  | .scope a, Q, S => wpC P b0 a Q S
  | .label, Q, S => Q .normal S
  | .rng g ps a b, Q, S => RngW P (a.noRng && b.noRng) ps.toList (fun b0 => wpC P b0 a) (fun b0 => wpC P b0 b) (g.ev S.fr) Q S
  | .wk a, Q, S => ∃ S', Weak b0 S S' ∧ wpC P b0 a Q S'
  | .cut a b, Q, S => ∃ M : St → Prop, wpC P b0 a (fun e S' => match e with | .normal => ∃ S'', Weak b0 S' S'' ∧ M S'' | .exit i => Q (.exit i) S' | .ret => Q .ret S') S ∧ ∀ S', M S' → wpC P b0 b Q S'

section
variable {P : Program}

theorem Sat.grow {c0 : Cx} {S : St} {a : Act} {w : World} (h : Sat c0 S a w) (m : Nat) : Sat c0 (S.grow m) a w := by
  obtain ⟨ρ, I, ok, hx, hd, hl, hf⟩ := h
  have hold : ∀ (g : Nat) (r : RowS), S.rows[g]? = some r → (S.rows ++ List.replicate m RowS.un)[g]? = some r := fun g r h => by
    rw [List.getElem?_append_left (List.getElem?_eq_some_iff.1 h).1]; exact h
  have hlive : ∀ (g sz : Nat) (es : List (List V)), (S.rows ++ List.replicate m RowS.un)[g]? = some (.live sz es) → S.rows[g]? = some (.live sz es) := fun g sz es h => by
    rw [List.getElem?_append] at h
    split at h
    · exact h
    · rw [List.getElem?_replicate] at h
      split at h
      · cases h
      · cases h
  have hstep : Ext ⟨ρ, I, S.rows, w⟩ ⟨ρ, I, S.rows ++ List.replicate m RowS.un, w⟩ := by
    refine ⟨rfl, rfl, rfl, Nat.le_refl _, fun _ _ _ => rfl, fun _ h => h, fun _ h => .inl h, fun _ _ h => .inl h, fun g => ?_⟩
    cases hg : S.rows[g]? with
    | none => unfold RowStep; simp only [hg]
    | some r => exact RowStep.of_eq (by simp only [hold g r hg, hg]) rfl (fun _ _ => rfl)
  have hob : ∀ (g : Nat) (o : GO), (S.rows ++ List.replicate m RowS.un)[g]? = some (RowS.obj o) → S.rows[g]? = some (RowS.obj o) := fun g o h => by
    rw [List.getElem?_append] at h
    split at h
    · exact h
    · rw [List.getElem?_replicate] at h
      split at h
      · cases h
      · cases h
  refine ⟨ρ, I, ⟨ok.inj, fun g b hb => ?_, fun g b sz es hb hr => ?_, fun g sz es hn hr => ok.virt g sz es hn (hlive g sz es hr), ok.imm, .step ok hstep fun h o hr => ⟨hob h o hr, rfl, fun _ _ => rfl⟩⟩, hx.trans hstep, hd.mono hstep, hl, fun i => (hf i).mono hstep ok⟩
  · obtain ⟨h1, h2, r, h3, h4⟩ := ok.own g b hb
    exact ⟨h1, h2, r, hold g _ h3, h4⟩
  · obtain ⟨arr, ty, fz, h1, h2, h3⟩ := ok.cont g b sz es hb (hlive g sz es hr)
    exact ⟨arr, ty, fz, h1, h2, h3.mono hstep ok⟩

/-- The exits as the run has them. -/
def liftQ (c0 : Cx) (Q : AX → St → Prop) : Exit → Act → World → Prop
  | .normal, a, w => ∃ S, Sat c0 S a w ∧ Q .normal S
  | .exit i, a, w => ∃ S, Sat c0 S a w ∧ Q (.exit i) S
  | .ret, a, w => ∃ S, Sat c0 S a w ∧ Q .ret S
  | _, _, _ => False

section
variable {b : Frame} {k : List Item} {cs : List Frame} {a : Act} {w : World} {n : Nat} {F : Fence}
theorem stepR_scope {c : Code} : step P (lone (b.atR a (.code (.scope c) :: k)) cs w) = .next (lone (b.atR a (.code c :: .inScope c :: k)) cs w) :=
  step_lone_go (by simp [stepG, stepG.exec, Frame.atR])
theorem stepR_inScope {c : Code} : step P (lone (b.atR a (.inScope c :: k)) cs w) = .next (lone (b.atR a k) cs w) :=
  step_lone_go (by simp [stepG, stepG.exec, Frame.atR])
theorem wpIn_scope_straight {Q : Exit → Act → World → Prop} {c : Code} (h : c.wpIn F n P (Exit.noGoto Q) a w) : (Code.scope c).wpIn F n P Q a w := by
  intro b k cs hro hb hr
  obtain ⟨e, a₁, w₁, hq, harr⟩ := h b (.inScope c :: k) cs hro hb hr
  cases e with
  | normal => exact ⟨.normal, a₁, w₁, hq, .head (fenced_calm hb hr rfl) stepR_scope (StepsIn.trans harr (.one (fenced_calm hb hr rfl) stepR_inScope))⟩
  | exit id =>
    have hx : exitTo id (.inScope c :: k) = exitTo id k := by simp [exitTo]
    exact ⟨.exit id, a₁, w₁, hq, fun k' hk => .head (fenced_calm hb hr rfl) stepR_scope (harr.1 k' (by rw [hx]; exact hk)),
      fun hr' hk => let ⟨k₁, h1, h2⟩ := harr.2 hr' (by rw [hx]; exact hk); ⟨k₁, h1, .head (fenced_calm hb hr rfl) stepR_scope h2⟩⟩
  | goto l => exact hq.elim
  | ret => exact ⟨_, a₁, w₁, hq, .of_steps (.one (fenced_calm hb hr rfl) stepR_scope) harr⟩
  | panic ch => exact ⟨_, a₁, w₁, hq, .of_steps (.one (fenced_calm hb hr rfl) stepR_scope) harr⟩
  | outgrown => exact ⟨_, a₁, w₁, hq, .of_steps (.one (fenced_calm hb hr rfl) stepR_scope) harr⟩
end
theorem wpIn_loopG {F : Fence} {m : Nat} {Q : Exit → Act → World → Prop} {c : Code} (I : Nat → Act → World → Prop)
    (round : ∀ n a w, I n a w → c.wpIn F m P (Exit.then (fun a' w' => ∃ n', n' < n ∧ I n' a' w') Q) a w) : ∀ n a w, I n a w → (Code.loop c).wpIn F m P Q a w := by
  intro n a w h b k cs hro hb hr
  have key : ∀ n a w, I n a w → ∃ e a' w', Q e a' w' ∧ ArrivesIn (Machine.fenced P F) P (lone (b.atR a (.code c :: .inLoop c :: k)) cs w) b k cs e a' w' := by
    intro n
    induction n using Nat.strongRecOn with
    | _ n ih =>
      intro a w hI
      obtain ⟨e, a₁, w₁, hq, harr⟩ := round n a w hI b (.inLoop c :: k) cs hro hb hr
      cases e with
      | normal =>
        obtain ⟨n', hlt, hI₁⟩ := hq
        obtain ⟨e₂, a₂, w₂, hq₂, harr₂⟩ := ih n' hlt a₁ w₁ hI₁
        exact ⟨e₂, a₂, w₂, hq₂, .of_steps (StepsIn.trans harr (.one (fenced_calm hb hr rfl) stepR_inLoop)) harr₂⟩
      | exit id => exact ⟨_, a₁, w₁, hq, .pass (x := .inLoop c) rfl (fun _ _ => .inl (by simp)) harr⟩
      | goto l => exact ⟨_, a₁, w₁, hq, .pass (x := .inLoop c) rfl (fun _ _ => .inl (by simp)) harr⟩
      | ret => exact ⟨_, a₁, w₁, hq, .pass (x := .inLoop c) rfl (fun _ _ => .inl (by simp)) harr⟩
      | panic ch => exact ⟨_, a₁, w₁, hq, .pass (x := .inLoop c) rfl (fun _ _ => .inl (by simp)) harr⟩
      | outgrown => exact ⟨_, a₁, w₁, hq, .pass (x := .inLoop c) rfl (fun _ _ => .inl (by simp)) harr⟩
  obtain ⟨e, a', w', hq, harr⟩ := key n a w h
  exact ⟨e, a', w', hq, .of_steps (.one (fenced_calm hb hr rfl) stepR_loop) harr⟩

theorem comp_erase_seq {code : Code} {a b : AC} (h : compC P code = some (.seq a b)) : ∃ x y, code = .seq x y ∧ compC P x = some a ∧ compC P y = some b := by
  cases code with
  | seq x y =>
    obtain ⟨a', h1, h⟩ := Option.bind_eq_some_iff.1 h
    obtain ⟨b', h2, h3⟩ := Option.map_eq_some_iff.1 h
    injection h3 with e1 e2; subst e1 e2
    exact ⟨x, y, rfl, h1, h2⟩
  | region id ops draw =>
    cases draw
    · obtain ⟨l, _, h⟩ := Option.map_eq_some_iff.1 h; cases h
    · obtain ⟨l, _, h⟩ := Option.bind_eq_some_iff.1 h
      split at h <;> cases h
  | cond c x y =>
    obtain ⟨_, _, h⟩ := Option.bind_eq_some_iff.1 h
    obtain ⟨_, _, h⟩ := Option.bind_eq_some_iff.1 h
    obtain ⟨_, _, h⟩ := Option.map_eq_some_iff.1 h
    cases h
  | block id x => obtain ⟨_, _, h⟩ := Option.map_eq_some_iff.1 h; cases h
  | loop x => obtain ⟨_, _, h⟩ := Option.map_eq_some_iff.1 h; cases h
  | scope x => obtain ⟨_, _, h⟩ := Option.map_eq_some_iff.1 h; cases h
  | rangeFunc g ps x y =>
    obtain ⟨_, _, h⟩ := Option.bind_eq_some_iff.1 h
    obtain ⟨_, _, h⟩ := Option.bind_eq_some_iff.1 h
    obtain ⟨_, _, h⟩ := Option.map_eq_some_iff.1 h
    cases h
  | _ => cases h

theorem comp_cond {code : Code} {c : Opd} {a b : AC} (h : compC P code = some (.cond c a b)) : ∃ o x y, code = .cond o x y ∧ compOpd o = some c ∧ compC P x = some a ∧ compC P y = some b := by
  cases code with
  | cond o x y =>
    obtain ⟨c', h0, h⟩ := Option.bind_eq_some_iff.1 h
    obtain ⟨a', h1, h⟩ := Option.bind_eq_some_iff.1 h
    obtain ⟨b', h2, h3⟩ := Option.map_eq_some_iff.1 h
    injection h3 with e0 e1 e2; subst e0 e1 e2
    exact ⟨o, x, y, rfl, h0, h1, h2⟩
  | seq x y =>
    obtain ⟨a', h1, h⟩ := Option.bind_eq_some_iff.1 h
    obtain ⟨b', h2, h3⟩ := Option.map_eq_some_iff.1 h
    cases h3
  | region id ops draw =>
    cases draw
    · obtain ⟨l, _, h⟩ := Option.map_eq_some_iff.1 h; cases h
    · obtain ⟨l, _, h⟩ := Option.bind_eq_some_iff.1 h
      split at h <;> cases h
  | block id x => obtain ⟨_, _, h⟩ := Option.map_eq_some_iff.1 h; cases h
  | loop x => obtain ⟨_, _, h⟩ := Option.map_eq_some_iff.1 h; cases h
  | scope x => obtain ⟨_, _, h⟩ := Option.map_eq_some_iff.1 h; cases h
  | rangeFunc g ps x y =>
    obtain ⟨_, _, h⟩ := Option.bind_eq_some_iff.1 h
    obtain ⟨_, _, h⟩ := Option.bind_eq_some_iff.1 h
    obtain ⟨_, _, h⟩ := Option.map_eq_some_iff.1 h
    cases h
  | _ => cases h

theorem comp_block {code : Code} {id : Nat} {a : AC} (h : compC P code = some (.block id a)) : ∃ x, code = .block id x ∧ compC P x = some a := by
  cases code with
  | block id x =>
    obtain ⟨a', h1, h⟩ := Option.map_eq_some_iff.1 h
    injection h with e1 e2; subst e1 e2
    exact ⟨x, rfl, h1⟩
  | cond o x y =>
    obtain ⟨c', h0, h⟩ := Option.bind_eq_some_iff.1 h
    obtain ⟨a', h1, h⟩ := Option.bind_eq_some_iff.1 h
    obtain ⟨b', h2, h3⟩ := Option.map_eq_some_iff.1 h
    cases h3
  | seq x y =>
    obtain ⟨a', h1, h⟩ := Option.bind_eq_some_iff.1 h
    obtain ⟨b', h2, h3⟩ := Option.map_eq_some_iff.1 h
    cases h3
  | region id ops draw =>
    cases draw
    · obtain ⟨l, _, h⟩ := Option.map_eq_some_iff.1 h; cases h
    · obtain ⟨l, _, h⟩ := Option.bind_eq_some_iff.1 h
      split at h <;> cases h
  | loop x => obtain ⟨_, _, h⟩ := Option.map_eq_some_iff.1 h; cases h
  | scope x => obtain ⟨_, _, h⟩ := Option.map_eq_some_iff.1 h; cases h
  | rangeFunc g ps x y =>
    obtain ⟨_, _, h⟩ := Option.bind_eq_some_iff.1 h
    obtain ⟨_, _, h⟩ := Option.bind_eq_some_iff.1 h
    obtain ⟨_, _, h⟩ := Option.map_eq_some_iff.1 h
    cases h
  | _ => cases h

theorem comp_loop {code : Code} {a : AC} (h : compC P code = some (.loop a)) : ∃ x, code = .loop x ∧ compC P x = some a := by
  cases code with
  | loop x =>
    obtain ⟨a', h1, h⟩ := Option.map_eq_some_iff.1 h
    injection h with e1; subst e1
    exact ⟨x, rfl, h1⟩
  | block id x => obtain ⟨_, _, h⟩ := Option.map_eq_some_iff.1 h; cases h
  | cond o x y =>
    obtain ⟨c', h0, h⟩ := Option.bind_eq_some_iff.1 h
    obtain ⟨a', h1, h⟩ := Option.bind_eq_some_iff.1 h
    obtain ⟨b', h2, h3⟩ := Option.map_eq_some_iff.1 h
    cases h3
  | seq x y =>
    obtain ⟨a', h1, h⟩ := Option.bind_eq_some_iff.1 h
    obtain ⟨b', h2, h3⟩ := Option.map_eq_some_iff.1 h
    cases h3
  | region id ops draw =>
    cases draw
    · obtain ⟨l, _, h⟩ := Option.map_eq_some_iff.1 h; cases h
    · obtain ⟨l, _, h⟩ := Option.bind_eq_some_iff.1 h
      split at h <;> cases h
  | scope x => obtain ⟨_, _, h⟩ := Option.map_eq_some_iff.1 h; cases h
  | rangeFunc g ps x y =>
    obtain ⟨_, _, h⟩ := Option.bind_eq_some_iff.1 h
    obtain ⟨_, _, h⟩ := Option.bind_eq_some_iff.1 h
    obtain ⟨_, _, h⟩ := Option.map_eq_some_iff.1 h
    cases h
  | _ => cases h

theorem comp_reg {code : Code} {m : Nat} {l : List AStm} (h : compC P code = some (.reg m l)) : ∃ id ops, code = .region id ops false ∧ compStms P ops ops.toList 0 = some l := by
  cases code with
  | region id ops draw =>
    cases draw
    · obtain ⟨l', h1, h⟩ := Option.map_eq_some_iff.1 h
      injection h with e1 e2; subst e2
      exact ⟨id, ops, rfl, h1⟩
    · obtain ⟨l, _, h⟩ := Option.bind_eq_some_iff.1 h
      split at h <;> cases h
  | loop x => obtain ⟨_, _, h⟩ := Option.map_eq_some_iff.1 h; cases h
  | block id x => obtain ⟨_, _, h⟩ := Option.map_eq_some_iff.1 h; cases h
  | cond o x y =>
    obtain ⟨c', h0, h⟩ := Option.bind_eq_some_iff.1 h
    obtain ⟨a', h1, h⟩ := Option.bind_eq_some_iff.1 h
    obtain ⟨b', h2, h3⟩ := Option.map_eq_some_iff.1 h
    cases h3
  | seq x y =>
    obtain ⟨a', h1, h⟩ := Option.bind_eq_some_iff.1 h
    obtain ⟨b', h2, h3⟩ := Option.map_eq_some_iff.1 h
    cases h3
  | scope x => obtain ⟨_, _, h⟩ := Option.map_eq_some_iff.1 h; cases h
  | rangeFunc g ps x y =>
    obtain ⟨_, _, h⟩ := Option.bind_eq_some_iff.1 h
    obtain ⟨_, _, h⟩ := Option.bind_eq_some_iff.1 h
    obtain ⟨_, _, h⟩ := Option.map_eq_some_iff.1 h
    cases h
  | _ => cases h

theorem comp_regD {code : Code} {m : Nat} {l : List (AStm × List Nat)} (h : compC P code = some (.regD m l)) :
    ∃ id ops sts pres, code = .region id ops true ∧ compStms P ops ops.toList 0 = some sts ∧ l = sts.zip pres ∧ P.follows .mixedOrders = true ∧ preOk ops.toList pres = true ∧ pres.length = sts.length ∧ slotsOk l = true ∧ edgesDown ops.toList = true := by
  cases code with
  | region id ops draw =>
    cases draw
    · obtain ⟨l', h1, h⟩ := Option.map_eq_some_iff.1 h; cases h
    · obtain ⟨l', h1, h⟩ := Option.bind_eq_some_iff.1 h
      split at h
      · rename_i hc
        injection h with h; injection h with e1 e2; subst e2
        exact ⟨id, ops, l', _, rfl, h1, rfl, hc.1, hc.2.1, hc.2.2.1, hc.2.2.2.1, hc.2.2.2.2⟩
      · cases h
  | loop x => obtain ⟨_, _, h⟩ := Option.map_eq_some_iff.1 h; cases h
  | block id x => obtain ⟨_, _, h⟩ := Option.map_eq_some_iff.1 h; cases h
  | cond o x y =>
    obtain ⟨c', h0, h⟩ := Option.bind_eq_some_iff.1 h
    obtain ⟨a', h1, h⟩ := Option.bind_eq_some_iff.1 h
    obtain ⟨b', h2, h3⟩ := Option.map_eq_some_iff.1 h
    cases h3
  | seq x y =>
    obtain ⟨a', h1, h⟩ := Option.bind_eq_some_iff.1 h
    obtain ⟨b', h2, h3⟩ := Option.map_eq_some_iff.1 h
    cases h3
  | scope x => obtain ⟨_, _, h⟩ := Option.map_eq_some_iff.1 h; cases h
  | rangeFunc g ps x y =>
    obtain ⟨_, _, h⟩ := Option.bind_eq_some_iff.1 h
    obtain ⟨_, _, h⟩ := Option.bind_eq_some_iff.1 h
    obtain ⟨_, _, h⟩ := Option.map_eq_some_iff.1 h
    cases h
  | _ => cases h

theorem comp_leaf {code : Code} {a : AC} (h : compC P code = some a) : (a = .skip → code = .skip) ∧ (∀ i, a = .exit i → code = .exit i) ∧ (a = .ret → code = .ret) ∧ (∀ x, a ≠ .wk x) ∧ (∀ x y, a ≠ .cut x y) := by
  cases code with
  | region id ops draw =>
    cases draw
    · obtain ⟨l', h1, h⟩ := Option.map_eq_some_iff.1 h; subst h; simp
    · obtain ⟨l', h1, h⟩ := Option.bind_eq_some_iff.1 h
      split at h
      · injection h with h; subst h; simp
      · cases h
  | loop x => obtain ⟨_, _, h⟩ := Option.map_eq_some_iff.1 h; subst h; simp
  | block id x => obtain ⟨_, _, h⟩ := Option.map_eq_some_iff.1 h; subst h; simp
  | cond o x y =>
    obtain ⟨c', h0, h⟩ := Option.bind_eq_some_iff.1 h
    obtain ⟨a', h1, h⟩ := Option.bind_eq_some_iff.1 h
    obtain ⟨b', h2, h3⟩ := Option.map_eq_some_iff.1 h
    subst h3; simp
  | seq x y =>
    obtain ⟨a', h1, h⟩ := Option.bind_eq_some_iff.1 h
    obtain ⟨b', h2, h3⟩ := Option.map_eq_some_iff.1 h
    subst h3; simp
  | skip => injection h with h; subst h; simp
  | exit i => injection h with h; subst h; simp
  | ret => injection h with h; subst h; simp
  | scope x => obtain ⟨_, _, h⟩ := Option.map_eq_some_iff.1 h; subst h; simp
  | label l => injection h with h; subst h; simp
  | rangeFunc g ps x y =>
    obtain ⟨_, _, h⟩ := Option.bind_eq_some_iff.1 h
    obtain ⟨_, _, h⟩ := Option.bind_eq_some_iff.1 h
    obtain ⟨_, _, h⟩ := Option.map_eq_some_iff.1 h
    subst h; simp
  | _ => cases h

theorem comp_scope {code : Code} {a : AC} (h : compC P code = some (.scope a)) : ∃ x, code = .scope x ∧ compC P x = some a := by
  cases code with
  | scope x =>
    obtain ⟨a', h1, h⟩ := Option.map_eq_some_iff.1 h
    injection h with e1; subst e1
    exact ⟨x, rfl, h1⟩
  | loop x => obtain ⟨_, _, h⟩ := Option.map_eq_some_iff.1 h; cases h
  | block id x => obtain ⟨_, _, h⟩ := Option.map_eq_some_iff.1 h; cases h
  | cond o x y =>
    obtain ⟨c', h0, h⟩ := Option.bind_eq_some_iff.1 h
    obtain ⟨a', h1, h⟩ := Option.bind_eq_some_iff.1 h
    obtain ⟨b', h2, h3⟩ := Option.map_eq_some_iff.1 h
    cases h3
  | seq x y =>
    obtain ⟨a', h1, h⟩ := Option.bind_eq_some_iff.1 h
    obtain ⟨b', h2, h3⟩ := Option.map_eq_some_iff.1 h
    cases h3
  | region id ops draw =>
    cases draw
    · obtain ⟨l, _, h⟩ := Option.map_eq_some_iff.1 h; cases h
    · obtain ⟨l, _, h⟩ := Option.bind_eq_some_iff.1 h
      split at h <;> cases h
  | rangeFunc g ps x y =>
    obtain ⟨_, _, h⟩ := Option.bind_eq_some_iff.1 h
    obtain ⟨_, _, h⟩ := Option.bind_eq_some_iff.1 h
    obtain ⟨_, _, h⟩ := Option.map_eq_some_iff.1 h
    cases h
  | _ => cases h

theorem comp_label {code : Code} (h : compC P code = some .label) : ∃ l, code = .label l := by
  cases code with
  | label l => exact ⟨l, rfl⟩
  | scope x => obtain ⟨_, _, h⟩ := Option.map_eq_some_iff.1 h; cases h
  | loop x => obtain ⟨_, _, h⟩ := Option.map_eq_some_iff.1 h; cases h
  | block id x => obtain ⟨_, _, h⟩ := Option.map_eq_some_iff.1 h; cases h
  | cond o x y =>
    obtain ⟨c', h0, h⟩ := Option.bind_eq_some_iff.1 h
    obtain ⟨a', h1, h⟩ := Option.bind_eq_some_iff.1 h
    obtain ⟨b', h2, h3⟩ := Option.map_eq_some_iff.1 h
    cases h3
  | seq x y =>
    obtain ⟨a', h1, h⟩ := Option.bind_eq_some_iff.1 h
    obtain ⟨b', h2, h3⟩ := Option.map_eq_some_iff.1 h
    cases h3
  | region id ops draw =>
    cases draw
    · obtain ⟨l, _, h⟩ := Option.map_eq_some_iff.1 h; cases h
    · obtain ⟨l, _, h⟩ := Option.bind_eq_some_iff.1 h
      split at h <;> cases h
  | rangeFunc g ps x y =>
    obtain ⟨_, _, h⟩ := Option.bind_eq_some_iff.1 h
    obtain ⟨_, _, h⟩ := Option.bind_eq_some_iff.1 h
    obtain ⟨_, _, h⟩ := Option.map_eq_some_iff.1 h
    cases h
  | _ => cases h

theorem comp_rng {code : Code} {g : Opd} {ps : Array Tmp} {a b : AC} (h : compC P code = some (.rng g ps a b)) : ∃ o x y, code = .rangeFunc o ps x y ∧ compOpd o = some g ∧ compC P x = some a ∧ compC P y = some b := by
  cases code with
  | rangeFunc o ps' x y =>
    obtain ⟨c', h0, h⟩ := Option.bind_eq_some_iff.1 h
    obtain ⟨a', h1, h⟩ := Option.bind_eq_some_iff.1 h
    obtain ⟨b', h2, h3⟩ := Option.map_eq_some_iff.1 h
    injection h3 with e0 e1 e2 e3; subst e0 e1 e2 e3
    exact ⟨o, x, y, rfl, h0, h1, h2⟩
  | cond o x y =>
    obtain ⟨c', h0, h⟩ := Option.bind_eq_some_iff.1 h
    obtain ⟨a', h1, h⟩ := Option.bind_eq_some_iff.1 h
    obtain ⟨b', h2, h3⟩ := Option.map_eq_some_iff.1 h
    cases h3
  | seq x y =>
    obtain ⟨a', h1, h⟩ := Option.bind_eq_some_iff.1 h
    obtain ⟨b', h2, h3⟩ := Option.map_eq_some_iff.1 h
    cases h3
  | region id ops draw =>
    cases draw
    · obtain ⟨l, _, h⟩ := Option.map_eq_some_iff.1 h; cases h
    · obtain ⟨l, _, h⟩ := Option.bind_eq_some_iff.1 h
      split at h <;> cases h
  | block id x => obtain ⟨_, _, h⟩ := Option.map_eq_some_iff.1 h; cases h
  | loop x => obtain ⟨_, _, h⟩ := Option.map_eq_some_iff.1 h; cases h
  | scope x => obtain ⟨_, _, h⟩ := Option.map_eq_some_iff.1 h; cases h
  | _ => cases h

/-- a round of the caller's loop -/
theorem round_sound [CtxPred] {l h : Nat} {L : Loop} {c1 : Cx} (ok1 : Ok c1) {rows : Rows} {vals : List V} {ups : List (Nat × RowS)} {fr : List V} {wA wB : Nat → (AX → St → Prop) → St → Prop}
    (sA : ∀ (ro : Option Nat) (b0 : Nat) (c0 : Cx) (Q : AX → St → Prop) (S : St) (a : Act) (w : World), c0.rows.length = b0 → CtxPred.G c0 → wA b0 Q S → Sat c0 S a w → L.assign.wpIn (fnc ro) 0 P (liftQ c0 Q) a w)
    (sB : ∀ (ro : Option Nat) (b0 : Nat) (c0 : Cx) (Q : AX → St → Prop) (S : St) (a : Act) (w : World), c0.rows.length = b0 → CtxPred.G c0 → wB b0 Q S → Sat c0 S a w → L.body.wpIn (fnc ro) 0 P (liftQ c0 Q) a w)
    (hfr : ∀ i, Rep c1 (L.tmps.getD i undef) (nth fr i)) (hlen : fr.length ≤ L.tmps.size) (hst : L.state = .ready) (hpd : L.pending = none)
    (hw : RoundW L.params.toList wA wB fr l L h rows vals ups) : @YldX (ctxFrom c1) P l vals rows (.d (.bool true)) ups := by
  obtain ⟨hr, hps, hsm, hup, hw⟩ := hw
  refine ⟨hsm, hup, fun c args ok hG hrows hargs => ?_⟩
  subst hrows
  have hx0 : Ext c1 c := hG.1
  replace hG : CtxPred.G c := hG.2
  obtain ⟨b, hρ, hgb, hg⟩ := ok.g.gob h _ hr
  subst hgb
  have hsz : args.size = vals.length := by simpa using hargs.1
  have hy := run_yield (P := P) (args := args) hg (by rw [hsz, ← hps]; simp)
  refine ⟨_, _, _, _, hy, roundIn_of_wpIn trivial ?_⟩
  obtain ⟨p1, p2, p3⟩ := putPs_rep (c := c) L.params.toList vals fr args.toList L.tmps hargs hlen (fun i => (hfr i).mono hx0 ok1)
  obtain ⟨T, hT⟩ : ∃ T, (L.params.zip args).foldl (fun tmps (t, a) => tmps.setIfInBounds t a) L.tmps = T := ⟨_, rfl⟩
  have hT2 : (L.params.toList.zip args.toList).foldl (fun t (p, v) => t.setIfInBounds p v) L.tmps = T := by
    rw [← hT, ← Array.foldl_toList, Array.toList_zip]
  rw [hT2] at p2 p3
  rw [hT]
  have hsat : Sat c ⟨putPs L.params.toList vals fr, c.rows⟩ { tmps := T, defers := [] } c.w :=
    ⟨c.ρ, c.I, ok, Ext.refl _, trivial, by simp only; rw [p1, p2]; exact hlen, p3⟩
  refine wpIn_mono (sA (some b) _ c _ _ _ _ rfl hG hw hsat) fun e a1 w1 hq => ?_
  cases e with
  | normal =>
    obtain ⟨S1, hs1, hr1, hw2⟩ := hq
    obtain ⟨ρ1, I1, oka, hxa, hda, hla, hfa⟩ := hs1
    obtain ⟨b1, hρ1, hgb1, hg1⟩ := oka.g.gob h _ hr1
    subst hgb1
    refine ⟨_, run_beginRound hg1 hst, ?_⟩
    obtain ⟨okb, hxb⟩ := objupd_ok oka h b1 (.loop b1 L) (.loop b1 { L with state := .busy }) (.loop { L with state := .busy }) hr1 hρ1 (w1.putObj b1 (.loop { L with state := .busy })) rfl rfl rfl rfl ⟨rfl, World.putObj_heap_same (Array.getElem?_eq_some_iff.1 hg1).1⟩
    have hsatb : Sat c ⟨S1.fr, S1.rows.set h (.obj (.loop b1 { L with state := .busy }))⟩ a1 (w1.putObj b1 (.loop { L with state := .busy })) :=
      ⟨ρ1, I1, okb, hxa.trans hxb, hda.mono hxb, hla, fun i => (hfa i).mono hxb oka⟩
    refine wpIn_mono (sB (some b1) _ c _ _ _ _ rfl hG hw2 hsatb) fun e a2 w2 hq => ?_
    cases e with
    | normal =>
      obtain ⟨S2, hs2, hr2, S3, hweak, hrows3⟩ := hq
      obtain ⟨ρ2, I2, okc, hxc, hdc, hlc, hfc⟩ := hs2
      obtain ⟨b2, hρ2, hgb2, hg2⟩ := okc.g.gob h _ hr2
      subst hgb2
      have hend := run_endRound (P := P) none hg2
      have hL : ({ ({ L with state := .busy } : Loop) with state := if (none : Option Code).isNone then .ready else .done, pending := none } : Loop) = L := by
        cases L; simp only at hst hpd; subst hst hpd; rfl
      rw [hL] at hend
      obtain ⟨okd, hxd⟩ := objupd_ok okc h b2 (.loop b2 { L with state := .busy }) (.loop b2 L) (.loop L) hr2 hρ2 (w2.putObj b2 (.loop L)) rfl rfl rfl rfl ⟨rfl, World.putObj_heap_same (Array.getElem?_eq_some_iff.1 hg2).1⟩
      have hsatd : Sat c ⟨S2.fr, S2.rows.set h (.obj (.loop b2 L))⟩ a2 (w2.putObj b2 (.loop L)) :=
        ⟨ρ2, I2, okd, hxc.trans hxd, hdc.mono hxd, hlc, fun i => (hfc i).mono hxd okc⟩
      obtain ⟨ρ3, I3, oke, hxe, _, _, _⟩ := hweak c a2 _ rfl hsatd
      exact ⟨_, _, hend, .bool true, ⟨ρ3, I3, S3.rows, _⟩, rfl, rfl, oke, hxe, hrows3, .d _ _ (.bool true)⟩
    | exit i => obtain ⟨S, _, hq⟩ := hq; exact hq.elim
    | ret => obtain ⟨S, _, hq⟩ := hq; exact hq.elim
    | goto l => exact hq.elim
    | panic ch => exact hq.elim
    | outgrown => exact hq.elim
  | exit i => obtain ⟨S, _, hq⟩ := hq; exact hq.elim
  | ret => obtain ⟨S, _, hq⟩ := hq; exact hq.elim
  | goto l => exact hq.elim
  | panic ch => exact hq.elim
  | outgrown => exact hq.elim

/-- a range over a function whose code is looked into -/
theorem rng_sound [CtxPred] {c0 : Cx} {S : St} {a : Act} {w : World} (hG : CtxPred.G c0) (hs : Sat c0 S a w) {g : Operand} {gd : Opd} (hg : compOpd g = some gd)
    {ps : Array Tmp} {assign body : Code} {wA wB : Nat → (AX → St → Prop) → St → Prop} {ok : Bool} {Q : AX → St → Prop}
    (sA : ok = true → ∀ (ro : Option Nat) (b0 : Nat) (c0 : Cx) (Q : AX → St → Prop) (S : St) (a : Act) (w : World), c0.rows.length = b0 → CtxPred.G c0 → wA b0 Q S → Sat c0 S a w → assign.wpIn (fnc ro) 0 P (liftQ c0 Q) a w)
    (sB : ok = true → ∀ (ro : Option Nat) (b0 : Nat) (c0 : Cx) (Q : AX → St → Prop) (S : St) (a : Act) (w : World), c0.rows.length = b0 → CtxPred.G c0 → wB b0 Q S → Sat c0 S a w → body.wpIn (fnc ro) 0 P (liftQ c0 Q) a w)
    (hw : RngW P ok ps.toList wA wB (gd.ev S.fr) Q S) : (Code.rangeFunc g ps assign body).wpIn (fnc none) 0 P (liftQ c0 Q) a w := by
  obtain ⟨hok, f, cap, K, hv, hit, hK⟩ := hw
  replace sA := sA hok
  replace sB := sB hok
  obtain ⟨ρ, I, ok, hx, hd, hl, hf⟩ := hs
  have hrg := opd_rep ok hf g gd hg
  rw [hv] at hrg
  generalize hfv : a.eval g = fv at hrg
  cases hrg with | fn _ fs cps _ _ h1 h2 h3 h4 =>
  have hfs : fs = #[] := by
    have : fs.size = 0 := h1
    exact Array.eq_empty_of_size_eq_zero this
  subst hfs
  refine wpIn_rangeFunc fun fn _ => ?_
  obtain ⟨L, hL⟩ : ∃ L : Loop, L = { state := .ready, pending := none, fn, tmps := a.tmps, params := ps, assign, body, defers := w.heap.size } := ⟨_, rfl⟩
  obtain ⟨ok1, hx1⟩ := rec_ok ok L
  have hT : L.tmps = a.tmps := by rw [hL]
  have hD1 : ((w.alloc (.deferred (some []))).alloc (.loop L)).heap[w.heap.size]? = some (.deferred (some [])) := by
    have h5 := push_old (w := w.alloc (.deferred (some []))) (w' := (w.alloc (.deferred (some []))).alloc (.loop L)) (o := .loop L) rfl (b := w.heap.size) (by rw [World.size_alloc]; omega)
    rw [h5]; exact World.alloc_heap_new w _
  have hmk : Marks c0.w.heap.size ⟨fun h => if h = S.rows.length then some (w.heap.size + 1) else ρ h, I, S.rows ++ [.obj (.loop (w.heap.size + 1) L)], (w.alloc (.deferred (some []))).alloc (.loop L)⟩ ({ target := .collected w.heap.size, args := #[] } :: a.defers) := by
    refine ⟨⟨w.heap.size, rfl, hx.size, hD1, fun h hh => ?_, fun hI => ?_, fun d' hd' ht => ?_⟩, hd.mono hx1⟩
    · simp only at hh
      split at hh
      · injection hh with hh; omega
      · exact absurd (ok.own h _ hh).1 (by simp)
    · exact absurd (ok.imm _ hI) (by simp)
    · clear hL hx1
      revert hd' hd
      generalize a.defers = ds
      intro hd hd'
      induction ds with
      | nil => simp at hd'
      | cons d ds ih =>
        obtain ⟨⟨D, e1, _, e3, _⟩, hds⟩ := hd
        rcases List.mem_cons.1 hd' with rfl | hd'
        · rw [e1] at ht
          injection ht with ht
          subst ht
          exact absurd (Array.getElem?_eq_some_iff.1 e3).1 (by simp)
        · exact ih hds hd'
  have hG1 : @CtxPred.G (ctxFrom ⟨fun h => if h = S.rows.length then some (w.heap.size + 1) else ρ h, I, S.rows ++ [.obj (.loop (w.heap.size + 1) L)], (w.alloc (.deferred (some []))).alloc (.loop L)⟩) ⟨fun h => if h = S.rows.length then some (w.heap.size + 1) else ρ h, I, S.rows ++ [.obj (.loop (w.heap.size + 1) L)], (w.alloc (.deferred (some []))).alloc (.loop L)⟩ :=
    ⟨Ext.refl _, CtxPred.stable (hx.trans hx1) hG⟩
  have hh := hit (w.heap.size + 1) L (ctxFrom ⟨fun h => if h = S.rows.length then some (w.heap.size + 1) else ρ h, I, S.rows ++ [.obj (.loop (w.heap.size + 1) L)], (w.alloc (.deferred (some []))).alloc (.loop L)⟩) (by rw [hL]) (by rw [hL])
    (fun rows vals ups hr => round_sound (L := L) (wA := wA) (wB := wB) (fr := S.fr) (h := S.rows.length) ok1 (by rw [hL]; exact sA) (by rw [hL]; exact sB) (fun i => by rw [hT]; exact (hf i).mono hx1 ok) (by rw [hT]; exact hl) (by rw [hL]) (by rw [hL]) (by rw [show L.params = ps by rw [hL]]; exact hr))
  obtain ⟨⟨fn2, hfn2, hnm, hbd⟩, hcall⟩ := hh
  have hargs : RepL ⟨fun h => if h = S.rows.length then some (w.heap.size + 1) else ρ h, I, S.rows ++ [.obj (.loop (w.heap.size + 1) L)], (w.alloc (.deferred (some []))).alloc (.loop L)⟩ (#[Value.func (Fn.yield (w.heap.size + 1)) #[] #[]] ++ cps).toList (.fn (.yield (w.heap.size + 1)) [] [] :: cap) := by
    refine ⟨by simp; omega, fun j v x hv hx => ?_⟩
    cases j with
    | zero => simp at hv hx; subst hv hx; exact .fn _ #[] #[] [] [] rfl rfl (fun j v x h _ => by simp at h) (fun j v x h _ => by simp at h)
    | succ j =>
      simp only [Array.toList_append, List.cons_append, List.nil_append, List.getElem?_cons_succ] at hv hx
      exact (h4 j v x hv (by simpa using hx)).mono hx1 ok
  refine ⟨w.heap.size + 1, [{ target := .collected w.heap.size, args := #[] }], (w.alloc (.deferred (some []))).alloc (.loop L), { target := .fn (.func f) cps, args := #[Value.func (Fn.yield (w.heap.size + 1)) #[] #[]] }, (w.alloc (.deferred (some []))).alloc (.loop L), f,
    #[Value.func (Fn.yield (w.heap.size + 1)) #[] #[]] ++ cps, (w.alloc (.deferred (some []))).alloc (.loop L), ?_, ?_, fun _ _ => trivial, ?_, fun h => by simp [fnc] at h, ?_⟩
  · rw [hL]; exact run_enterLoop_outer _ _ _ _ _
  · simp only [resolve, hfv]
    simp [go_sem]
  · have hnm' : ¬ fn2.name = "runtime.NumGoroutine" := by simpa using hnm
    have hbd' : ¬ fn2.body = none := fun e => by rw [e] at hbd; simp at hbd
    simp [invoke, callFunc, hfn2, hnm', hbd']
  · refine calls_fnc ((hcall _ _ ok1 hG1 rfl hargs).mono ?_)
    rintro e w' ⟨u, c', v, rfl, rfl, ok', hx', hrep, hk⟩
    obtain ⟨hrow, hQ⟩ := hK _ _ _ _ hk
    obtain ⟨b, hρ, hgb, hg2⟩ := ok'.g.gob _ _ hrow
    subst hgb
    refine ⟨_, _, run_endLoop hg2 (by rw [hL]; simp), ?_⟩
    have hP : L.pending = none := by rw [hL]
    obtain ⟨okd, hxd⟩ := objupd_ok ok' S.rows.length (w.heap.size + 1) (.loop (w.heap.size + 1) L) (.loop (w.heap.size + 1) { L with state := .exhausted }) (.loop { L with state := .exhausted }) hrow hρ (c'.w.putObj (w.heap.size + 1) (.loop { L with state := .exhausted })) rfl rfl rfl rfl ⟨rfl, World.putObj_heap_same (Array.getElem?_eq_some_iff.1 hg2).1⟩
    have key : liftQ c0 Q .normal { a with defers := { target := .collected w.heap.size, args := #[] } :: a.defers } (c'.w.putObj (w.heap.size + 1) (.loop { L with state := .exhausted })) :=
      ⟨⟨S.fr, c'.rows.set S.rows.length (.obj (.loop (w.heap.size + 1) { L with state := .exhausted }))⟩, ⟨c'.ρ, c'.I, okd, ((hx.trans hx1).trans hx').trans hxd, (hmk.mono hx').mono hxd, hl, fun i => (((hf i).mono hx1 ok).mono hx' ok1).mono hxd ok'⟩, hQ⟩
    simp only [hP] at key ⊢
    exact key

theorem wpC_soundIn [CtxPred] {ro : Option Nat} {b0 : Nat} {c0 : Cx} (hb : c0.rows.length = b0) (hG : CtxPred.G c0) : ∀ (ac : AC) (code : Code) (Q : AX → St → Prop) (S : St) (a : Act) (w : World), ro = none ∨ ac.noRng = true → compC P code = some ac.erase → wpC P b0 ac Q S → Sat c0 S a w →
    code.wpIn (fnc ro) 0 P (liftQ c0 Q) a w
  | .skip, code, Q, S, a, w, hn, hc, hw, hs => by
    rw [(comp_leaf hc).1 rfl]
    exact wpIn_skip ⟨S, hs, hw⟩
  | .exit i, code, Q, S, a, w, hn, hc, hw, hs => by
    rw [(comp_leaf hc).2.1 i rfl]
    exact wpIn_exit ⟨S, hs, hw⟩
  | .ret, code, Q, S, a, w, hn, hc, hw, hs => by
    rw [(comp_leaf hc).2.2.1 rfl]
    exact wpIn_ret ⟨S, hs, hw⟩
  | .reg m l, code, Q, S, a, w, hn, hc, hw, hs => by
    obtain ⟨id, ops, rfl, hst⟩ := comp_reg hc
    refine wpIn_region_list (seq_sound ops.toList 0 l (Q .normal) _ a w hst hw (hs.grow m) hG fun S' a' w' hk hs' => ⟨S', hs', hk⟩)
  | .regX m fl l, code, Q, S, a, w, hn, hc, hw, hs => by
    obtain ⟨id, ops, rfl, hst⟩ := comp_reg hc
    refine wpIn_region_list (seqI_sound ops.toList 0 fl l (Q .normal) _ a w hst hw (hs.grow m) hG fun S' a' w' hk hs' => ⟨S', hs', hk⟩)
  | .regD m l, code, Q, S, a, w, hn, hc, hw, hs => by
    obtain ⟨id, ops, sts, pres, rfl, hst, hl, hm, h1, h2, h3, h4⟩ := comp_regD hc
    refine wpIn_region_any hm (any_sound hst hl h2 h1 h3 h4 hw ?_ hG fun S' a' w' hk hs' => ⟨S', hs', hk⟩)
    obtain ⟨ρ, I, ok, hx, hd, hl', hf⟩ := hs.grow m
    have hstep : Ext ⟨ρ, I, (S.grow m).rows, w⟩ ⟨ρ, I, (S.grow m).rows, { w with drawn := w.drawn + 1 }⟩ :=
      ⟨rfl, rfl, rfl, Nat.le_refl _, fun _ _ _ => rfl, fun _ h => h, fun _ h => .inl h, fun _ _ h => .inl h, fun g => RowStep.of_eq rfl rfl (fun _ _ => rfl)⟩
    refine ⟨ρ, I, ⟨ok.inj, ok.own, fun g b sz es hb hr => ?_, ok.virt, ok.imm, .step ok hstep fun h o hr => ⟨hr, rfl, fun _ _ => rfl⟩⟩, hx.trans hstep, hd.mono hstep, hl', fun i => (hf i).mono hstep ok⟩
    obtain ⟨arr, ty, fz, h1, h2, h3⟩ := ok.cont g b sz es hb hr
    exact ⟨arr, ty, fz, h1, h2, h3.mono hstep ok⟩
  | .seq x y, code, Q, S, a, w, hn, hc, hw, hs => by
    obtain ⟨cx, cy, rfl, h1, h2⟩ := comp_erase_seq hc
    refine wpIn_seq (wpIn_mono (wpC_soundIn hb hG x cx _ S a w (hn.imp_right fun h => (Bool.and_eq_true_iff.1 h).1) h1 hw hs) fun e a' w' hq => ?_)
    cases e with
    | normal =>
      obtain ⟨S', hs', hq⟩ := hq
      exact wpC_soundIn hb hG y cy Q S' a' w' (hn.imp_right fun h => (Bool.and_eq_true_iff.1 h).2) h2 hq hs'
    | exit i => exact hq
    | ret => exact hq
    | goto l => exact hq
    | panic ch => exact hq
    | outgrown => exact hq
  | .cut x y, code, Q, S, a, w, hn, hc, hw, hs => by
    obtain ⟨cx, cy, rfl, h1, h2⟩ := comp_erase_seq hc
    obtain ⟨M, hw, hm⟩ := hw
    refine wpIn_seq (wpIn_mono (wpC_soundIn hb hG x cx _ S a w (hn.imp_right fun h => (Bool.and_eq_true_iff.1 h).1) h1 hw hs) fun e a' w' hq => ?_)
    cases e with
    | normal =>
      obtain ⟨S', hs', S'', hwk, hq⟩ := hq
      exact wpC_soundIn hb hG y cy Q S'' a' w' (hn.imp_right fun h => (Bool.and_eq_true_iff.1 h).2) h2 (hm S'' hq) (hwk c0 a' w' hb hs')
    | exit i => exact hq
    | ret => exact hq
    | goto l => exact hq
    | panic ch => exact hq
    | outgrown => exact hq
  | .wk x, code, Q, S, a, w, hn, hc, hw, hs => by
    obtain ⟨S', hwk, hw⟩ := hw
    exact wpC_soundIn hb hG x code Q S' a w hn hc hw (hwk c0 a w hb hs)
  | .cond c x y, code, Q, S, a, w, hn, hc, hw, hs => by
    obtain ⟨o, cx, cy, rfl, h0, h1, h2⟩ := comp_cond hc
    simp only [wpC, condW] at hw
    obtain ⟨ρ, I, ok, hx, hd, hl, hf⟩ := hs
    have hr := opd_rep ok hf o c h0
    split at hw
    · rename_i t e
      rw [e] at hr
      have hv := rep_bool hr
      refine wpIn_cond_split hv (fun ht => ?_) (fun ht => ?_)
      · exact wpC_soundIn hb hG x cx Q S a w (hn.imp_right fun h => (Bool.and_eq_true_iff.1 h).1) h1 (hw.1 ht) ⟨ρ, I, ok, hx, hd, hl, hf⟩
      · exact wpC_soundIn hb hG y cy Q S a w (hn.imp_right fun h => (Bool.and_eq_true_iff.1 h).2) h2 (hw.2 ht) ⟨ρ, I, ok, hx, hd, hl, hf⟩
    · rename_i e
      rw [e] at hr
      obtain ⟨t, hv⟩ := rep_boolU hr
      refine wpIn_cond_split hv (fun ht => ?_) (fun ht => ?_)
      · exact wpC_soundIn hb hG x cx Q S a w (hn.imp_right fun h => (Bool.and_eq_true_iff.1 h).1) h1 hw.1 ⟨ρ, I, ok, hx, hd, hl, hf⟩
      · exact wpC_soundIn hb hG y cy Q S a w (hn.imp_right fun h => (Bool.and_eq_true_iff.1 h).2) h2 hw.2 ⟨ρ, I, ok, hx, hd, hl, hf⟩
    · exact hw.elim
  | .block id x, code, Q, S, a, w, hn, hc, hw, hs => by
    obtain ⟨cx, rfl, h1⟩ := comp_block hc
    refine wpIn_block (wpIn_mono (wpC_soundIn hb hG x cx _ S a w hn h1 hw hs) fun e a' w' hq => ?_)
    cases e with
    | normal => exact hq
    | exit i =>
      obtain ⟨S', hs', hq⟩ := hq
      simp only [Exit.inBlock]
      by_cases hi : i = id
      · simp only [hi, if_true] at hq ⊢; exact ⟨S', hs', hq⟩
      · simp only [hi, if_false] at hq ⊢; exact ⟨S', hs', hq⟩
    | ret => exact hq
    | goto l => exact hq
    | panic ch => exact hq
    | outgrown => exact hq
  | .label, code, Q, S, a, w, hn, hc, hw, hs => by
    obtain ⟨l, rfl⟩ := comp_label hc
    exact wpIn_label ⟨S, hs, hw⟩
  | .scope x, code, Q, S, a, w, hn, hc, hw, hs => by
    obtain ⟨cx, rfl, h1⟩ := comp_scope hc
    refine wpIn_scope_straight (wpIn_mono (wpC_soundIn hb hG x cx _ S a w hn h1 hw hs) fun e a' w' hq => ?_)
    cases e with
    | normal => exact hq
    | exit i => exact hq
    | ret => exact hq
    | goto l => exact hq
    | panic ch => exact hq
    | outgrown => exact hq
  | .loop x, code, Q, S, a, w, hn, hc, hw, hs => by
    obtain ⟨cx, rfl, h1⟩ := comp_loop hc
    obtain ⟨I, n, S', hwk, hI, hround⟩ := hw
    refine wpIn_loopG (fun n a w => ∃ S, Sat c0 S a w ∧ I n S) (fun n a w hI => ?_) n a w ⟨S', hwk c0 a w hb hs, hI⟩
    obtain ⟨S2, hs2, hI2⟩ := hI
    refine wpIn_mono (wpC_soundIn hb hG x cx _ S2 a w hn h1 (hround n S2 hI2) hs2) fun e a' w' hq => ?_
    cases e with
    | normal =>
      obtain ⟨S3, hs3, n', S4, hlt, hwk4, hI4⟩ := hq
      exact ⟨n', hlt, S4, hwk4 c0 a' w' hb hs3, hI4⟩
    | exit i => exact hq
    | ret => exact hq
    | goto l => exact hq
    | panic ch => exact hq
    | outgrown => exact hq
  | .rng g ps x y, code, Q, S, a, w, hn, hc, hw, hs => by
    obtain ⟨o, cx, cy, rfl, h0, h1, h2⟩ := comp_rng hc
    obtain rfl : ro = none := hn.resolve_right (by simp [AC.noRng])
    exact rng_sound hG hs h0
      (fun hok ro b0 c0 Q S a w hb hG hw hs => wpC_soundIn hb hG x cx Q S a w (.inr (Bool.and_eq_true_iff.1 hok).1) h1 hw hs)
      (fun hok ro b0 c0 Q S a w hb hG hw hs => wpC_soundIn hb hG y cy Q S a w (.inr (Bool.and_eq_true_iff.1 hok).2) h2 hw hs) hw

theorem wpC_sound [CtxPred] {b0 : Nat} {c0 : Cx} (hb : c0.rows.length = b0) (hG : CtxPred.G c0) (ac : AC) (code : Code) (Q : AX → St → Prop) (S : St) (a : Act) (w : World) (hc : compC P code = some ac.erase) (hw : wpC P b0 ac Q S) (hs : Sat c0 S a w) :
    code.wp P (liftQ c0 Q) a w := (wpIn_wide (n := 0)).1 (wpC_soundIn (ro := none) hb hG ac code Q S a w (.inl rfl) hc hw hs)

end
end Go.Vx
