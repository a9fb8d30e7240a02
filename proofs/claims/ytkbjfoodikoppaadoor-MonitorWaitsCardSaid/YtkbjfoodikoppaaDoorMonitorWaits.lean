/- Proved: the card of the law MonitorWaits: the law returns true for every input that the row admits, its arguments read behind the call as before, and the listed variable is tied to the program's text. Conditions: the row's own: the listed variable holds at the start what the program's text lays. -/
import Derived.Test.YtkbjfoodikoppaaDoorRows
import Derived.Test.YtkbjfoodikoppaaDoorCards
import Derived.Test.YtkbjfoodikoppaaDoorTie
import Derived.WalkKit
import Derived.ProofKit
import Derived.LaidMore
import Derived.OpenShut
import Derived.Stop.Joined
import Derived.SevenTiedAt
import Derived.Test.YtkbjfoodikoppaaDoorW7
import Derived.Test.YtkbjfoodikoppaaDoorVxArg3
import Derived.Test.YtkbjfoodikoppaaDoorVxArg4
namespace Go.Proofs.YtkbjfoodikoppaaDoor.monitorWaits
open Go.Vx Go.ChangeShapes Go.WideShapes Go.ChangeAt Go.RowKit
set_option linter.unusedVariables false
set_option linter.unusedSimpArgs false

theorem own : ownKnob Tryd.prog.godebug = none := by kernel_rfl
abbrev LD : List (String × DataW Unit) := [("testbench/lexer.keywords", Rows.laid_testbench_lexer_keywords)]

set_option maxRecDepth 100000 in
theorem all (xss : List (List D)) (h : TyAllR Tryd.prog [25, 27] xss) : CallP Tryd.prog 8 (argVsE Tryd.prog [25, 27] xss) (.d (.bool true)) := by
  obtain ⟨x0, y0, n0, rfl, h0, k0⟩ := tyAllR_cons h
  obtain ⟨x1, y1, n1, rfl, h1, k1⟩ := tyAllR_cons k0
  obtain rfl := tyAllR_nil k1
  obtain ⟨a0, rfl, w0⟩ := Mn.tr_wv h0
  obtain ⟨a1, rfl, w1⟩ := Mn.tr_chn h1
  simp only [argVsE, argVE, Tryd.underlying25, Tryd.underlying27, List.map_cons, List.map_nil]
  exact Mn.t8 a0 a1 w0 w1

set_option maxRecDepth 100000 in
theorem door_met (os : Os) (args : Array Value) : laidMetH Tryd.prog LD ((World.doorLaid Tryd.prog 400 os).forCall (fun _ _ => 0) ⟨#[], args, []⟩).memory :=
  laidMetH_of_parts3 (fuel := 8) (laidMet_of_run' 8 (by kernel_rfl) (by kernel_rfl)) (by kernel_rfl) (by kernel_rfl)

set_option maxRecDepth 100000 in
theorem lifted (os : Os) (started : os.Started) (H : Type) (enc : TypeId × Value → H) :
    ReturnsInHanded {} Tryd.checked os 8 .any (fun w args => (Rows.monitorWaitsSpec.pre enc Tryd.prog Tryd.f8 [] false w args ∧ laidMetH Tryd.prog LD w) ∧ sizedMet enc Tryd.prog Tryd.f8 (OpenSpec.ofChange Rows.monitorWaitsSpec) false w args) (Rows.monitorWaitsSpec.post enc Tryd.prog Tryd.f8 false true false false) := by
  refine returnsInHanded_of_change_and (C := Tryd.checked) (X := fun w _ => laidMetH Tryd.prog LD w) (fun _ _ _ hh h => h.of_heap hh) own started (by kernel_rfl) Tryd.func8
    (ChangeSpec.witness_shaped (enc := enc) (C := Tryd.checked) (os := os) (X := fun w _ => laidMetH Tryd.prog LD w) false (World.doorLaid Tryd.prog 400 os) #[.agg #[.slice none 0 0, .slice none 0 0], .agg #[.string ⟨#[]⟩, .string ⟨#[]⟩, .slice none 0 0]] 8 rfl (World.shaped_of_RefB (by kernel_rfl) (by kernel_rfl)) (by kernel_rfl) (by kernel_rfl) (by kernel_rfl) (door_met os _)) ?_
  intro W base args ds gs before hval0 hW _ hsz0 hL _
  have hG : GW (fun b => b < W.heap.size) W := gw_of_laid (nm := "testbench/lexer.keywords") (t := 22) (s := 9) hL (by kernel_rfl) (by kernel_rfl) Tryd.underlying22 Tryd.underlying9 (by kernel_rfl)
  have hval : ∀ (j : Nat) t v, Tryd.f8.params[j]? = some t → args[j]? = some v → Value.okWide Tryd.prog W .any base t v := hval0
  have hW' := hW
  obtain ⟨p, q, hA0, hV, rfl, hfz, hnd⟩ := hW
  have hA : DataW.TrodAll enc Tryd.prog W 0 (fun _ => true) true Tryd.f8.params.toList args.toList ds p := hA0
  rw [Tryd.params8] at hA hval
  have hA2 : DataW.TrodAll enc Tryd.prog W 0 (fun _ => true) true [25, 27] args.toList ds p := hA
  obtain ⟨rfl, rfl⟩ := trodVars_none hV
  have hsz : (DataW.weightsEach Tryd.prog [25, 27] ds).all (· ≤ reachBytes) = true := by have h := hsz0; rw [List.append_nil ds] at h; exact h
  have hc := law_callsR (r := .any) (base := base) (S := [3, 4, 9, 22, 23, 25, 27, 34]) (f := 8) hG (by kernel_rfl) all (by decide) hA2 (fun j t v h1 h2 => hval j t v (by simpa using h1) (by simpa using h2)) hsz
  obtain ⟨v0, vs0, d0, ds0, p0, q0, hargs0, rfl, hp0, g0, r0⟩ := trodAll_cons hA
  obtain ⟨v1, vs1, d1, ds1, p1, q1, hargs1, rfl, hp1, g1, r1⟩ := trodAll_cons r0
  obtain ⟨hnil, rfl, hpn⟩ := trodAll_nil r1
  have hlt := hW'.lt
  refine hc.mono fun e W' ⟨he, hg⟩ => ?_
  subst he
  exact ⟨_, rfl, post_kept (pa := p) (pv := []) hW' (fun _ _ _ => (trodAll_cons_mk (shut_bool Tryd.underlying4 _) trodAll_mk0)) (fun sp hs => by
    rw [Tryd.params8]
    exact kept_args (by kernel_rfl) hg (by decide +kernel) hA2 (fun x hx => hlt x (List.mem_append_left _ hx)) fun x hx => hs x (List.mem_append_left _ hx)) (fun _ _ => rfl) rfl hg⟩

theorem over : Rows.MonitorWaitsSaid :=
  OpenClaim.holds_of_wide 8 Tryd.f8 rfl rfl rfl rfl rfl rfl rfl ⟨rfl, rfl, rfl, rfl, rfl⟩ rfl rfl rfl rfl rfl (by kernel_rfl) Tryd.func8 (by kernel_rfl)
    (of_decide_eq_true (by kernel_rfl)) (by unfold Func.isWrapper; first | (rw [if_pos (by decide +kernel)]; kernel_rfl) | (rw [if_neg (by decide +kernel)]; exact ⟨rfl, rfl⟩))
    (fun os started H enc _ => lifted os started H enc)

theorem proved : Rows.MonitorWaitsCardSaid :=
  Claim7.holds_tied_plain_at .later [] [.widerDeep] true (true, "09a6faec504022434bf0a317fca361aac4ed234a21a2cc5e834a94d045b48d8c") false
    over (fun _ h => by cases h) (by kernel_rfl) (fun _ h => by cases h) monitorWaits_row_tie rfl ⟨rfl, rfl⟩ (by kernel_rfl) rfl
    (fun f fn hf hfn => by
      obtain rfl : f = 8 := Option.some.inj ((show Tryd.prog.funcNamed "testbench/testbenchlaw37.MonitorWaits" = some 8 by kernel_rfl).symm.trans hf) |>.symm
      obtain rfl : fn = Tryd.f8 := (Option.some.inj (Tryd.func8.symm.trans hfn)).symm
      exact ⟨by kernel_rfl, fun j t ht => by
        rw [Tryd.params8] at ht
        have hm : t ∈ [25, 27] := by simpa using Array.mem_of_getElem? ht
        have hall : ([25, 27].all fun u => !Tryd.prog.wantsStandIn u) = true := by kernel_rfl
        exact (show Tryd.prog.wantsStandIn t = false by simpa using List.all_eq_true.1 hall t hm)⟩)
    (by kernel_rfl)
#print axioms proved
end Go.Proofs.YtkbjfoodikoppaaDoor.monitorWaits
