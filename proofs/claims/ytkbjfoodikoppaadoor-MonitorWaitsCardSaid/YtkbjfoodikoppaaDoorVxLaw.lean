import Derived.Test.YtkbjfoodikoppaaDoorVxAll
import Derived.ProofKit
import Derived.ChangeSame
set_option linter.unusedSectionVars false
set_option linter.unusedSimpArgs false
set_option linter.unusedVariables false
namespace Go.Vx
open Go.ChangeShapes Go.WideShapes Go.ChangeAt Go.RowKit

/-- What was there is as it was. -/
def Kept (w w' : World) : Prop := w'.os = w.os ∧ w'.output = w.output ∧ w.heap.size ≤ w'.heap.size ∧ ∀ b, b < w.heap.size → w'.heap[b]? = w.heap[b]?

theorem Kept.but {w w' : World} (h : Kept w w') (may : MemPlace → Prop) : w.keptBut w' may := by
  refine ⟨h.1, h.2.1, fun i hi => ?_⟩
  rw [h.2.2.2 i hi]
  cases w.heap[i]? with
  | none => trivial
  | some o => cases o <;> simp

theorem kept_of_ext {I I' : Nat → Prop} {w w' : World} (hx : Ext (bare I w) (bare I' w')) : Kept w w' :=
  ⟨hx.os, hx.output, hx.size, fun b hb => hx.keep b hb (by simp [bare])⟩

theorem repD_bool {I : Nat → Prop} {w : World} {u : Value} {b : Bool} (h : Rep (bare I w) u (.d (.bool b))) : u = .bool b := by
  cases h with | d _ _ h => cases h; rfl

/-- A law that holds: its call, as the rows ask for it. -/
theorem law_walk {P : Program} {f : FuncId} {vals : List V} (h : CallP P f vals (.d (.bool true))) {I : Nat → Prop} {w : World} {us : Array Value} (hg : GW I w) (hI : ∀ b, I b → b < w.heap.size) (hr : RepL (bare I w) us.toList vals) :
    Calls P f us w fun e w' => e = .returned (.bool true) ∧ Kept w w' :=
  (h.2 I w us ⟨by simp [bare], by simp [bare], by simp [bare], by simp [bare], hI, bareG hg⟩ hr).mono fun e w' ⟨u, I', he, _, hx, hu⟩ => by
    rw [repD_bool hu] at he
    exact ⟨he, kept_of_ext hx⟩

theorem repL_nil {c : Cx} : RepL c [] [] := ⟨rfl, by simp⟩
theorem repL_cons {c : Cx} {u : Value} {us : List Value} {v : V} {vs : List V} (h : Rep c u v) (hs : RepL c us vs) : RepL c (u :: us) (v :: vs) :=
  ⟨by simp [hs.1], fun j v' x h1 h2 => by
    cases j with
    | zero => simp at h1 h2; subst h1 h2; exact h
    | succ j => exact hs.2 j v' x (by simpa using h1) (by simpa using h2)⟩

theorem post_kept {H : Type} {enc : TypeId × Value → H} {P : Program} {f : Func} {s : ChangeSpec} {apart fresh handsOn : Bool} {W W' : World} {args : Array Value} {v : Value} {ds gs : List (DataW H)} {before pa pv : List MemPlace}
    (hW : DataW.Whole enc P f.params.toList s.vars apart W args.toList ds gs before)
    (hres : ∀ (b : Nat) (sp : Nat → Bool) (hd : Bool), DataW.TrodAll enc P W' b sp hd f.resultTypes.toList (v.resultList f.resultTypes.size) (s.fn H (ds ++ gs)).results [])
    (hargs : ∀ sp : Nat → Bool, (∀ p ∈ before, sp p.block = true) → DataW.TrodAll enc P W' 0 sp true f.params.toList args.toList (s.fn H (ds ++ gs)).args pa)
    (hvars : ∀ sp : Nat → Bool, (∀ p ∈ before, sp p.block = true) → DataW.TrodVars enc P W' sp s.vars (s.fn H (ds ++ gs)).vars pv)
    (hps : before = pa ++ pv) (hk : Kept W W') : s.post enc P f apart fresh handsOn false W args v W' := by
  have hold : ∀ p ∈ before, (fun b => decide (b < W.heap.size)) p.block = true := fun p hp => by simpa using hW.lt p hp
  refine ⟨ds, gs, before, [], pa, pv, hW, hres _ _ _, hargs _ hold, hvars _ hold, World.keptBut_mono (fun p hp => ⟨hp, ?_⟩) (hk.but (· ∈ before)), fun h => by cases h⟩
  rw [hps, List.mem_append] at hp
  exact .inr hp

end Go.Vx
