import Derived.Test.YtacjcacadekceaaDoorVxDet
import Derived.Scope
set_option linter.unusedSimpArgs false
set_option linter.unusedVariables false
namespace Go.Vx

inductive AC where
  | skip
  | reg (m : Nat) (l : List AStm)
  | regD (m : Nat) (l : List (AStm × List Nat))
  | seq (a b : AC)
  | cond (c : Opd) (a b : AC)
  | block (id : Nat) (a : AC)
  | loop (a : AC)
  | exit (id : Nat)
  | ret
  /-- ghosts: the state may be said more weakly; the ways meet -/
  | wk (a : AC)
  | cut (a b : AC)
  /-- a region of which some calls are looked into -/
  | regX (m : Nat) (fl : List Bool) (l : List AStm)
  | scope (a : AC)
  | label
  deriving Inhabited

def AC.erase : AC → AC
  | .seq a b => .seq a.erase b.erase
  | .cond c a b => .cond c a.erase b.erase
  | .block id a => .block id a.erase
  | .loop a => .loop a.erase
  | .wk a => a.erase
  | .cut a b => .seq a.erase b.erase
  | .regX m _ l => .reg m l
  | .scope a => .scope a.erase
  | c => c

inductive AX where
  | normal
  | exit (id : Nat)
  | ret

def compC (P : Program) : Code → Option AC
  | .skip => some .skip
  | .region _ ops false => (compStms P ops ops.toList 0).map fun l => .reg (nMakes l) l
  | .region _ ops true => (compStms P ops ops.toList 0).bind fun l =>
    if P.follows .mixedOrders = true ∧ preOk ops.toList (presOf ops.toList []) = true ∧ (presOf ops.toList []).length = l.length ∧ slotsOk (l.zip (presOf ops.toList [])) = true ∧ edgesDown ops.toList = true then some (.regD (nMakes l) (l.zip (presOf ops.toList []))) else none
  | .seq a b => (compC P a).bind fun a => (compC P b).map fun b => .seq a b
  | .cond c a b => (compOpd c).bind fun c => (compC P a).bind fun a => (compC P b).map fun b => .cond c a b
  | .block id a => (compC P a).map fun a => .block id a
  | .loop a => (compC P a).map fun a => .loop a
  | .exit id => some (.exit id)
  | .ret => some .ret
  | .scope a => (compC P a).map fun a => .scope a
  | .label _ => some .label
  | _ => none

def St.grow (S : St) (m : Nat) : St := ⟨S.fr, S.rows ++ List.replicate m .un⟩

/-- S' says less than S. -/
def Weak (b0 : Nat) (S S' : St) : Prop := ∀ c0 a w, c0.rows.length = b0 → Sat c0 S a w → Sat c0 S' a w

def condW (v : V) (A B : Prop) : Prop :=
  match v with
  | .d (.bool t) => (t = true → A) ∧ (t = false → B)
  | .d .boolU => A ∧ B
  | _ => False

def LoopW (b0 : Nat) (body : (AX → St → Prop) → St → Prop) (Q : AX → St → Prop) (S : St) : Prop :=
  ∃ (I : Nat → St → Prop) (n : Nat) (S' : St), Weak b0 S S' ∧ I n S' ∧ ∀ n S, I n S → body (fun e S' => match e with
    | .normal => ∃ n' S'', n' < n ∧ Weak b0 S' S'' ∧ I n' S''
    | .exit i => Q (.exit i) S'
    | .ret => Q .ret S') S

def wpC (P : Program) (b0 : Nat) : AC → (AX → St → Prop) → St → Prop
  | .skip, Q, S => Q .normal S
  | .reg m l, Q, S => runW P S.rows.length l (Q .normal) (S.grow m)
  | .regD m l, Q, S => runD P S.rows.length l [] (Q .normal) (S.grow m)
  | .regX m fl l, Q, S => runI P S.rows.length fl l (Q .normal) (S.grow m)
  | .seq a b, Q, S => wpC P b0 a (fun e S' => match e with | .normal => wpC P b0 b Q S' | .exit i => Q (.exit i) S' | .ret => Q .ret S') S
  | .cond c a b, Q, S => condW (c.ev S.fr) (wpC P b0 a Q S) (wpC P b0 b Q S)
  | .block id a, Q, S => wpC P b0 a (fun e S' => match e with | .normal => Q .normal S' | .exit i => if i = id then Q .normal S' else Q (.exit i) S' | .ret => Q .ret S') S
  | .loop a, Q, S => LoopW b0 (wpC P b0 a) Q S
  | .exit id, Q, S => Q (.exit id) S
  | .ret, Q, S => Q .ret S
  | .scope a, Q, S => wpC P b0 a Q S
  | .label, Q, S => Q .normal S
  | .wk a, Q, S => ∃ S', Weak b0 S S' ∧ wpC P b0 a Q S'
  | .cut a b, Q, S => ∃ M : St → Prop, wpC P b0 a (fun e S' => match e with | .normal => ∃ S'', Weak b0 S' S'' ∧ M S'' | .exit i => Q (.exit i) S' | .ret => Q .ret S') S ∧ ∀ S', M S' → wpC P b0 b Q S'

section
variable {P : Program}

theorem Sat.grow {c0 : Cx} {S : St} {a : Act} {w : World} (h : Sat c0 S a w) (m : Nat) : Sat c0 (S.grow m) a w := by
  obtain ⟨ρ, I, ok, hx, hd, hl, hf⟩ := h
  have hold : ∀ (g : Nat) (r : RowS), S.rows[g]? = some r → (S.rows ++ List.replicate m RowS.un)[g]? = some r := fun g r h => by
    rw [List.getElem?_append_left (List.getElem?_eq_some_iff.1 h).1]; exact h
  have hlive : ∀ (g sz : Nat) (es : List (List V)), (S.rows ++ List.replicate m RowS.un)[g]? = some (.live sz es) → S.rows[g]? = some (.live sz es) := fun g sz es h => by
    rw [List.getElem?_append] at h
    split at h
    · exact h
    · rw [List.getElem?_replicate] at h
      split at h
      · cases h
      · cases h
  have hstep : Ext ⟨ρ, I, S.rows, w⟩ ⟨ρ, I, S.rows ++ List.replicate m RowS.un, w⟩ := by
    refine ⟨rfl, rfl, rfl, Nat.le_refl _, fun _ _ _ => rfl, fun _ h => h, fun _ h => .inl h, fun _ _ h => .inl h, fun g => ?_⟩
    cases hg : S.rows[g]? with
    | none => unfold RowStep; simp only [hg]
    | some r => exact RowStep.of_eq (by simp only [hold g r hg, hg]) rfl (fun _ _ => rfl)
  have hob : ∀ (g : Nat) (o : GO), (S.rows ++ List.replicate m RowS.un)[g]? = some (RowS.obj o) → S.rows[g]? = some (RowS.obj o) := fun g o h => by
    rw [List.getElem?_append] at h
    split at h
    · exact h
    · rw [List.getElem?_replicate] at h
      split at h
      · cases h
      · cases h
  refine ⟨ρ, I, ⟨ok.inj, fun g b hb => ?_, fun g b sz es hb hr => ?_, fun g sz es hn hr => ok.virt g sz es hn (hlive g sz es hr), ok.imm, .step ok hstep fun h o hr => ⟨hob h o hr, rfl, fun _ _ => rfl⟩⟩, hx.trans hstep, hd, hl, fun i => (hf i).mono hstep ok⟩
  · obtain ⟨h1, h2, r, h3, h4⟩ := ok.own g b hb
    exact ⟨h1, h2, r, hold g _ h3, h4⟩
  · obtain ⟨arr, ty, fz, h1, h2, h3⟩ := ok.cont g b sz es hb (hlive g sz es hr)
    exact ⟨arr, ty, fz, h1, h2, h3.mono hstep ok⟩

/-- The exits as the run has them. -/
def liftQ (c0 : Cx) (Q : AX → St → Prop) : Exit → Act → World → Prop
  | .normal, a, w => ∃ S, Sat c0 S a w ∧ Q .normal S
  | .exit i, a, w => ∃ S, Sat c0 S a w ∧ Q (.exit i) S
  | .ret, a, w => ∃ S, Sat c0 S a w ∧ Q .ret S
  | _, _, _ => False

theorem wp_loopG {Q : Exit → Act → World → Prop} {c : Code} (I : Nat → Act → World → Prop)
    (round : ∀ n a w, I n a w → c.wp P (Exit.then (fun a' w' => ∃ n', n' < n ∧ I n' a' w') Q) a w) : ∀ n a w, I n a w → (Code.loop c).wp P Q a w := by
  intro n a w h b k cs
  have key : ∀ n a w, I n a w → ∃ e a' w', Q e a' w' ∧ Arrives P (lone (b.at a (.code c :: .inLoop c :: k)) cs w) b k cs e a' w' := by
    intro n
    induction n using Nat.strongRecOn with
    | _ n ih =>
      intro a w hI
      obtain ⟨e, a₁, w₁, hq, harr⟩ := round n a w hI b (.inLoop c :: k) cs
      cases e with
      | normal =>
        obtain ⟨n', hlt, hI₁⟩ := hq
        obtain ⟨e₂, a₂, w₂, hq₂, harr₂⟩ := ih n' hlt a₁ w₁ hI₁
        exact ⟨e₂, a₂, w₂, hq₂, .of_steps (Steps.trans harr (.one step_inLoop)) harr₂⟩
      | exit id => exact ⟨_, a₁, w₁, hq, .pass (x := .inLoop c) rfl (fun _ _ => .inl (by simp)) harr⟩
      | goto l => exact ⟨_, a₁, w₁, hq, .pass (x := .inLoop c) rfl (fun _ _ => .inl (by simp)) harr⟩
      | ret => exact ⟨_, a₁, w₁, hq, .pass (x := .inLoop c) rfl (fun _ _ => .inl (by simp)) harr⟩
      | panic ch => exact ⟨_, a₁, w₁, hq, .pass (x := .inLoop c) rfl (fun _ _ => .inl (by simp)) harr⟩
      | outgrown => exact ⟨_, a₁, w₁, hq, .pass (x := .inLoop c) rfl (fun _ _ => .inl (by simp)) harr⟩
  obtain ⟨e, a', w', hq, harr⟩ := key n a w h
  exact ⟨e, a', w', hq, .of_steps (.one step_loop) harr⟩

theorem comp_erase_seq {code : Code} {a b : AC} (h : compC P code = some (.seq a b)) : ∃ x y, code = .seq x y ∧ compC P x = some a ∧ compC P y = some b := by
  cases code with
  | seq x y =>
    obtain ⟨a', h1, h⟩ := Option.bind_eq_some_iff.1 h
    obtain ⟨b', h2, h3⟩ := Option.map_eq_some_iff.1 h
    injection h3 with e1 e2; subst e1 e2
    exact ⟨x, y, rfl, h1, h2⟩
  | region id ops draw =>
    cases draw
    · obtain ⟨l, _, h⟩ := Option.map_eq_some_iff.1 h; cases h
    · obtain ⟨l, _, h⟩ := Option.bind_eq_some_iff.1 h
      split at h <;> cases h
  | cond c x y =>
    obtain ⟨_, _, h⟩ := Option.bind_eq_some_iff.1 h
    obtain ⟨_, _, h⟩ := Option.bind_eq_some_iff.1 h
    obtain ⟨_, _, h⟩ := Option.map_eq_some_iff.1 h
    cases h
  | block id x => obtain ⟨_, _, h⟩ := Option.map_eq_some_iff.1 h; cases h
  | loop x => obtain ⟨_, _, h⟩ := Option.map_eq_some_iff.1 h; cases h
  | scope x => obtain ⟨_, _, h⟩ := Option.map_eq_some_iff.1 h; cases h
  | _ => cases h

theorem comp_cond {code : Code} {c : Opd} {a b : AC} (h : compC P code = some (.cond c a b)) : ∃ o x y, code = .cond o x y ∧ compOpd o = some c ∧ compC P x = some a ∧ compC P y = some b := by
  cases code with
  | cond o x y =>
    obtain ⟨c', h0, h⟩ := Option.bind_eq_some_iff.1 h
    obtain ⟨a', h1, h⟩ := Option.bind_eq_some_iff.1 h
    obtain ⟨b', h2, h3⟩ := Option.map_eq_some_iff.1 h
    injection h3 with e0 e1 e2; subst e0 e1 e2
    exact ⟨o, x, y, rfl, h0, h1, h2⟩
  | seq x y =>
    obtain ⟨a', h1, h⟩ := Option.bind_eq_some_iff.1 h
    obtain ⟨b', h2, h3⟩ := Option.map_eq_some_iff.1 h
    cases h3
  | region id ops draw =>
    cases draw
    · obtain ⟨l, _, h⟩ := Option.map_eq_some_iff.1 h; cases h
    · obtain ⟨l, _, h⟩ := Option.bind_eq_some_iff.1 h
      split at h <;> cases h
  | block id x => obtain ⟨_, _, h⟩ := Option.map_eq_some_iff.1 h; cases h
  | loop x => obtain ⟨_, _, h⟩ := Option.map_eq_some_iff.1 h; cases h
  | scope x => obtain ⟨_, _, h⟩ := Option.map_eq_some_iff.1 h; cases h
  | _ => cases h

theorem comp_block {code : Code} {id : Nat} {a : AC} (h : compC P code = some (.block id a)) : ∃ x, code = .block id x ∧ compC P x = some a := by
  cases code with
  | block id x =>
    obtain ⟨a', h1, h⟩ := Option.map_eq_some_iff.1 h
    injection h with e1 e2; subst e1 e2
    exact ⟨x, rfl, h1⟩
  | cond o x y =>
    obtain ⟨c', h0, h⟩ := Option.bind_eq_some_iff.1 h
    obtain ⟨a', h1, h⟩ := Option.bind_eq_some_iff.1 h
    obtain ⟨b', h2, h3⟩ := Option.map_eq_some_iff.1 h
    cases h3
  | seq x y =>
    obtain ⟨a', h1, h⟩ := Option.bind_eq_some_iff.1 h
    obtain ⟨b', h2, h3⟩ := Option.map_eq_some_iff.1 h
    cases h3
  | region id ops draw =>
    cases draw
    · obtain ⟨l, _, h⟩ := Option.map_eq_some_iff.1 h; cases h
    · obtain ⟨l, _, h⟩ := Option.bind_eq_some_iff.1 h
      split at h <;> cases h
  | loop x => obtain ⟨_, _, h⟩ := Option.map_eq_some_iff.1 h; cases h
  | scope x => obtain ⟨_, _, h⟩ := Option.map_eq_some_iff.1 h; cases h
  | _ => cases h

theorem comp_loop {code : Code} {a : AC} (h : compC P code = some (.loop a)) : ∃ x, code = .loop x ∧ compC P x = some a := by
  cases code with
  | loop x =>
    obtain ⟨a', h1, h⟩ := Option.map_eq_some_iff.1 h
    injection h with e1; subst e1
    exact ⟨x, rfl, h1⟩
  | block id x => obtain ⟨_, _, h⟩ := Option.map_eq_some_iff.1 h; cases h
  | cond o x y =>
    obtain ⟨c', h0, h⟩ := Option.bind_eq_some_iff.1 h
    obtain ⟨a', h1, h⟩ := Option.bind_eq_some_iff.1 h
    obtain ⟨b', h2, h3⟩ := Option.map_eq_some_iff.1 h
    cases h3
  | seq x y =>
    obtain ⟨a', h1, h⟩ := Option.bind_eq_some_iff.1 h
    obtain ⟨b', h2, h3⟩ := Option.map_eq_some_iff.1 h
    cases h3
  | region id ops draw =>
    cases draw
    · obtain ⟨l, _, h⟩ := Option.map_eq_some_iff.1 h; cases h
    · obtain ⟨l, _, h⟩ := Option.bind_eq_some_iff.1 h
      split at h <;> cases h
  | scope x => obtain ⟨_, _, h⟩ := Option.map_eq_some_iff.1 h; cases h
  | _ => cases h

theorem comp_reg {code : Code} {m : Nat} {l : List AStm} (h : compC P code = some (.reg m l)) : ∃ id ops, code = .region id ops false ∧ compStms P ops ops.toList 0 = some l := by
  cases code with
  | region id ops draw =>
    cases draw
    · obtain ⟨l', h1, h⟩ := Option.map_eq_some_iff.1 h
      injection h with e1 e2; subst e2
      exact ⟨id, ops, rfl, h1⟩
    · obtain ⟨l, _, h⟩ := Option.bind_eq_some_iff.1 h
      split at h <;> cases h
  | loop x => obtain ⟨_, _, h⟩ := Option.map_eq_some_iff.1 h; cases h
  | block id x => obtain ⟨_, _, h⟩ := Option.map_eq_some_iff.1 h; cases h
  | cond o x y =>
    obtain ⟨c', h0, h⟩ := Option.bind_eq_some_iff.1 h
    obtain ⟨a', h1, h⟩ := Option.bind_eq_some_iff.1 h
    obtain ⟨b', h2, h3⟩ := Option.map_eq_some_iff.1 h
    cases h3
  | seq x y =>
    obtain ⟨a', h1, h⟩ := Option.bind_eq_some_iff.1 h
    obtain ⟨b', h2, h3⟩ := Option.map_eq_some_iff.1 h
    cases h3
  | scope x => obtain ⟨_, _, h⟩ := Option.map_eq_some_iff.1 h; cases h
  | _ => cases h

theorem comp_regD {code : Code} {m : Nat} {l : List (AStm × List Nat)} (h : compC P code = some (.regD m l)) :
    ∃ id ops sts pres, code = .region id ops true ∧ compStms P ops ops.toList 0 = some sts ∧ l = sts.zip pres ∧ P.follows .mixedOrders = true ∧ preOk ops.toList pres = true ∧ pres.length = sts.length ∧ slotsOk l = true ∧ edgesDown ops.toList = true := by
  cases code with
  | region id ops draw =>
    cases draw
    · obtain ⟨l', h1, h⟩ := Option.map_eq_some_iff.1 h; cases h
    · obtain ⟨l', h1, h⟩ := Option.bind_eq_some_iff.1 h
      split at h
      · rename_i hc
        injection h with h; injection h with e1 e2; subst e2
        exact ⟨id, ops, l', _, rfl, h1, rfl, hc.1, hc.2.1, hc.2.2.1, hc.2.2.2.1, hc.2.2.2.2⟩
      · cases h
  | loop x => obtain ⟨_, _, h⟩ := Option.map_eq_some_iff.1 h; cases h
  | block id x => obtain ⟨_, _, h⟩ := Option.map_eq_some_iff.1 h; cases h
  | cond o x y =>
    obtain ⟨c', h0, h⟩ := Option.bind_eq_some_iff.1 h
    obtain ⟨a', h1, h⟩ := Option.bind_eq_some_iff.1 h
    obtain ⟨b', h2, h3⟩ := Option.map_eq_some_iff.1 h
    cases h3
  | seq x y =>
    obtain ⟨a', h1, h⟩ := Option.bind_eq_some_iff.1 h
    obtain ⟨b', h2, h3⟩ := Option.map_eq_some_iff.1 h
    cases h3
  | scope x => obtain ⟨_, _, h⟩ := Option.map_eq_some_iff.1 h; cases h
  | _ => cases h

theorem comp_leaf {code : Code} {a : AC} (h : compC P code = some a) : (a = .skip → code = .skip) ∧ (∀ i, a = .exit i → code = .exit i) ∧ (a = .ret → code = .ret) ∧ (∀ x, a ≠ .wk x) ∧ (∀ x y, a ≠ .cut x y) := by
  cases code with
  | region id ops draw =>
    cases draw
    · obtain ⟨l', h1, h⟩ := Option.map_eq_some_iff.1 h; subst h; simp
    · obtain ⟨l', h1, h⟩ := Option.bind_eq_some_iff.1 h
      split at h
      · injection h with h; subst h; simp
      · cases h
  | loop x => obtain ⟨_, _, h⟩ := Option.map_eq_some_iff.1 h; subst h; simp
  | block id x => obtain ⟨_, _, h⟩ := Option.map_eq_some_iff.1 h; subst h; simp
  | cond o x y =>
    obtain ⟨c', h0, h⟩ := Option.bind_eq_some_iff.1 h
    obtain ⟨a', h1, h⟩ := Option.bind_eq_some_iff.1 h
    obtain ⟨b', h2, h3⟩ := Option.map_eq_some_iff.1 h
    subst h3; simp
  | seq x y =>
    obtain ⟨a', h1, h⟩ := Option.bind_eq_some_iff.1 h
    obtain ⟨b', h2, h3⟩ := Option.map_eq_some_iff.1 h
    subst h3; simp
  | skip => injection h with h; subst h; simp
  | exit i => injection h with h; subst h; simp
  | ret => injection h with h; subst h; simp
  | scope x => obtain ⟨_, _, h⟩ := Option.map_eq_some_iff.1 h; subst h; simp
  | label l => injection h with h; subst h; simp
  | _ => cases h

theorem comp_scope {code : Code} {a : AC} (h : compC P code = some (.scope a)) : ∃ x, code = .scope x ∧ compC P x = some a := by
  cases code with
  | scope x =>
    obtain ⟨a', h1, h⟩ := Option.map_eq_some_iff.1 h
    injection h with e1; subst e1
    exact ⟨x, rfl, h1⟩
  | loop x => obtain ⟨_, _, h⟩ := Option.map_eq_some_iff.1 h; cases h
  | block id x => obtain ⟨_, _, h⟩ := Option.map_eq_some_iff.1 h; cases h
  | cond o x y =>
    obtain ⟨c', h0, h⟩ := Option.bind_eq_some_iff.1 h
    obtain ⟨a', h1, h⟩ := Option.bind_eq_some_iff.1 h
    obtain ⟨b', h2, h3⟩ := Option.map_eq_some_iff.1 h
    cases h3
  | seq x y =>
    obtain ⟨a', h1, h⟩ := Option.bind_eq_some_iff.1 h
    obtain ⟨b', h2, h3⟩ := Option.map_eq_some_iff.1 h
    cases h3
  | region id ops draw =>
    cases draw
    · obtain ⟨l, _, h⟩ := Option.map_eq_some_iff.1 h; cases h
    · obtain ⟨l, _, h⟩ := Option.bind_eq_some_iff.1 h
      split at h <;> cases h
  | _ => cases h

theorem comp_label {code : Code} (h : compC P code = some .label) : ∃ l, code = .label l := by
  cases code with
  | label l => exact ⟨l, rfl⟩
  | scope x => obtain ⟨_, _, h⟩ := Option.map_eq_some_iff.1 h; cases h
  | loop x => obtain ⟨_, _, h⟩ := Option.map_eq_some_iff.1 h; cases h
  | block id x => obtain ⟨_, _, h⟩ := Option.map_eq_some_iff.1 h; cases h
  | cond o x y =>
    obtain ⟨c', h0, h⟩ := Option.bind_eq_some_iff.1 h
    obtain ⟨a', h1, h⟩ := Option.bind_eq_some_iff.1 h
    obtain ⟨b', h2, h3⟩ := Option.map_eq_some_iff.1 h
    cases h3
  | seq x y =>
    obtain ⟨a', h1, h⟩ := Option.bind_eq_some_iff.1 h
    obtain ⟨b', h2, h3⟩ := Option.map_eq_some_iff.1 h
    cases h3
  | region id ops draw =>
    cases draw
    · obtain ⟨l, _, h⟩ := Option.map_eq_some_iff.1 h; cases h
    · obtain ⟨l, _, h⟩ := Option.bind_eq_some_iff.1 h
      split at h <;> cases h
  | _ => cases h

theorem wpC_sound {b0 : Nat} {c0 : Cx} (hb : c0.rows.length = b0) : ∀ (ac : AC) (code : Code) (Q : AX → St → Prop) (S : St) (a : Act) (w : World), compC P code = some ac.erase → wpC P b0 ac Q S → Sat c0 S a w →
    code.wp P (liftQ c0 Q) a w
  | .skip, code, Q, S, a, w, hc, hw, hs => by
    rw [(comp_leaf hc).1 rfl]
    exact wp_skip ⟨S, hs, hw⟩
  | .exit i, code, Q, S, a, w, hc, hw, hs => by
    rw [(comp_leaf hc).2.1 i rfl]
    exact wp_exit ⟨S, hs, hw⟩
  | .ret, code, Q, S, a, w, hc, hw, hs => by
    rw [(comp_leaf hc).2.2.1 rfl]
    exact wp_ret ⟨S, hs, hw⟩
  | .reg m l, code, Q, S, a, w, hc, hw, hs => by
    obtain ⟨id, ops, rfl, hst⟩ := comp_reg hc
    refine wp_region_list (seq_sound ops.toList 0 l (Q .normal) _ a w hst hw (hs.grow m) fun S' a' w' hk hs' => ⟨S', hs', hk⟩)
  | .regX m fl l, code, Q, S, a, w, hc, hw, hs => by
    obtain ⟨id, ops, rfl, hst⟩ := comp_reg hc
    refine wp_region_list (seqI_sound ops.toList 0 fl l (Q .normal) _ a w hst hw (hs.grow m) fun S' a' w' hk hs' => ⟨S', hs', hk⟩)
  | .regD m l, code, Q, S, a, w, hc, hw, hs => by
    obtain ⟨id, ops, sts, pres, rfl, hst, hl, hm, h1, h2, h3, h4⟩ := comp_regD hc
    refine wp_region_any hm (any_sound hst hl h2 h1 h3 h4 hw ?_ fun S' a' w' hk hs' => ⟨S', hs', hk⟩)
    obtain ⟨ρ, I, ok, hx, hd, hl', hf⟩ := hs.grow m
    have hstep : Ext ⟨ρ, I, (S.grow m).rows, w⟩ ⟨ρ, I, (S.grow m).rows, { w with drawn := w.drawn + 1 }⟩ :=
      ⟨rfl, rfl, rfl, Nat.le_refl _, fun _ _ _ => rfl, fun _ h => h, fun _ h => .inl h, fun _ _ h => .inl h, fun g => RowStep.of_eq rfl rfl (fun _ _ => rfl)⟩
    refine ⟨ρ, I, ⟨ok.inj, ok.own, fun g b sz es hb hr => ?_, ok.virt, ok.imm, .step ok hstep fun h o hr => ⟨hr, rfl, fun _ _ => rfl⟩⟩, hx.trans hstep, hd, hl', fun i => (hf i).mono hstep ok⟩
    obtain ⟨arr, ty, fz, h1, h2, h3⟩ := ok.cont g b sz es hb hr
    exact ⟨arr, ty, fz, h1, h2, h3.mono hstep ok⟩
  | .seq x y, code, Q, S, a, w, hc, hw, hs => by
    obtain ⟨cx, cy, rfl, h1, h2⟩ := comp_erase_seq hc
    refine wp_seq (wp_mono (wpC_sound hb x cx _ S a w h1 hw hs) fun e a' w' hq => ?_)
    cases e with
    | normal =>
      obtain ⟨S', hs', hq⟩ := hq
      exact wpC_sound hb y cy Q S' a' w' h2 hq hs'
    | exit i => exact hq
    | ret => exact hq
    | goto l => exact hq
    | panic ch => exact hq
    | outgrown => exact hq
  | .cut x y, code, Q, S, a, w, hc, hw, hs => by
    obtain ⟨cx, cy, rfl, h1, h2⟩ := comp_erase_seq hc
    obtain ⟨M, hw, hm⟩ := hw
    refine wp_seq (wp_mono (wpC_sound hb x cx _ S a w h1 hw hs) fun e a' w' hq => ?_)
    cases e with
    | normal =>
      obtain ⟨S', hs', S'', hwk, hq⟩ := hq
      exact wpC_sound hb y cy Q S'' a' w' h2 (hm S'' hq) (hwk c0 a' w' hb hs')
    | exit i => exact hq
    | ret => exact hq
    | goto l => exact hq
    | panic ch => exact hq
    | outgrown => exact hq
  | .wk x, code, Q, S, a, w, hc, hw, hs => by
    obtain ⟨S', hwk, hw⟩ := hw
    exact wpC_sound hb x code Q S' a w hc hw (hwk c0 a w hb hs)
  | .cond c x y, code, Q, S, a, w, hc, hw, hs => by
    obtain ⟨o, cx, cy, rfl, h0, h1, h2⟩ := comp_cond hc
    simp only [wpC, condW] at hw
    obtain ⟨ρ, I, ok, hx, hd, hl, hf⟩ := hs
    have hr := opd_rep ok hf o c h0
    split at hw
    · rename_i t e
      rw [e] at hr
      have hv := rep_bool hr
      refine wp_cond_split hv (fun ht => ?_) (fun ht => ?_)
      · exact wpC_sound hb x cx Q S a w h1 (hw.1 ht) ⟨ρ, I, ok, hx, hd, hl, hf⟩
      · exact wpC_sound hb y cy Q S a w h2 (hw.2 ht) ⟨ρ, I, ok, hx, hd, hl, hf⟩
    · rename_i e
      rw [e] at hr
      obtain ⟨t, hv⟩ := rep_boolU hr
      refine wp_cond_split hv (fun ht => ?_) (fun ht => ?_)
      · exact wpC_sound hb x cx Q S a w h1 hw.1 ⟨ρ, I, ok, hx, hd, hl, hf⟩
      · exact wpC_sound hb y cy Q S a w h2 hw.2 ⟨ρ, I, ok, hx, hd, hl, hf⟩
    · exact hw.elim
  | .block id x, code, Q, S, a, w, hc, hw, hs => by
    obtain ⟨cx, rfl, h1⟩ := comp_block hc
    refine wp_block (wp_mono (wpC_sound hb x cx _ S a w h1 hw hs) fun e a' w' hq => ?_)
    cases e with
    | normal => exact hq
    | exit i =>
      obtain ⟨S', hs', hq⟩ := hq
      simp only [Exit.inBlock]
      by_cases hi : i = id
      · simp only [hi, if_true] at hq ⊢; exact ⟨S', hs', hq⟩
      · simp only [hi, if_false] at hq ⊢; exact ⟨S', hs', hq⟩
    | ret => exact hq
    | goto l => exact hq
    | panic ch => exact hq
    | outgrown => exact hq
  | .label, code, Q, S, a, w, hc, hw, hs => by
    obtain ⟨l, rfl⟩ := comp_label hc
    exact wp_label ⟨S, hs, hw⟩
  | .scope x, code, Q, S, a, w, hc, hw, hs => by
    obtain ⟨cx, rfl, h1⟩ := comp_scope hc
    refine wp_scope_straight (wp_mono (wpC_sound hb x cx _ S a w h1 hw hs) fun e a' w' hq => ?_)
    cases e with
    | normal => exact hq
    | exit i => exact hq
    | ret => exact hq
    | goto l => exact hq
    | panic ch => exact hq
    | outgrown => exact hq
  | .loop x, code, Q, S, a, w, hc, hw, hs => by
    obtain ⟨cx, rfl, h1⟩ := comp_loop hc
    obtain ⟨I, n, S', hwk, hI, hround⟩ := hw
    refine wp_loopG (fun n a w => ∃ S, Sat c0 S a w ∧ I n S) (fun n a w hI => ?_) n a w ⟨S', hwk c0 a w hb hs, hI⟩
    obtain ⟨S2, hs2, hI2⟩ := hI
    refine wp_mono (wpC_sound hb x cx _ S2 a w h1 (hround n S2 hI2) hs2) fun e a' w' hq => ?_
    cases e with
    | normal =>
      obtain ⟨S3, hs3, n', S4, hlt, hwk4, hI4⟩ := hq
      exact ⟨n', hlt, S4, hwk4 c0 a' w' hb hs3, hI4⟩
    | exit i => exact hq
    | ret => exact hq
    | goto l => exact hq
    | panic ch => exact hq
    | outgrown => exact hq

end
end Go.Vx
