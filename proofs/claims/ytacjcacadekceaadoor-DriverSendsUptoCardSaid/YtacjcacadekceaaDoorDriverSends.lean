/- Proved: the second form's card of the law DriverSends: the law returns true for every input of the bulk that the row admits, its arguments read behind the call as before, and the listed variable is tied to the program's text. Conditions: the row's own: the listed variable holds at the start what the program's text lays. -/
import Derived.Test.YtacjcacadekceaaDoorRows
import Derived.Test.YtacjcacadekceaaDoorCards
import Derived.Test.YtacjcacadekceaaDoorTie
import Derived.WalkKit
import Derived.ProofKit
import Derived.LaidMore
import Derived.OpenShut
import Derived.Stop.Joined
import Derived.SevenTiedAt
import Derived.Test.YtacjcacadekceaaDoorE2
import Derived.Test.YtacjcacadekceaaDoorVxArg3
import Derived.Test.YtacjcacadekceaaDoorVxArg5
import Derived.Test.YtacjcacadekceaaDoorB1
import Derived.Deep.DeepHandedRow
import Derived.Deep.DeepWitnessRowRef
namespace Go.Proofs.YtacjcacadekceaaDoor.driverSends
open Go.Vx Go.ChangeShapes Go.WideShapes Go.ChangeAt Go.RowKit
set_option linter.unusedVariables false
set_option linter.unusedSimpArgs false

theorem own : ownKnob Tryd.prog.godebug = none := by kernel_rfl
abbrev LD : List (String × DataW Unit) := [("testbench/lexer.keywords", Rows.laid_testbench_lexer_keywords)]

set_option maxRecDepth 100000 in
theorem all (xss : List (List D)) (h : TyAllQ Dr.RB Tryd.prog [22, 35, 43] xss) : CallP Tryd.prog 6 (argVsE Tryd.prog [22, 35, 43] xss) (.d (.bool true)) := by
  obtain ⟨x0, y0, n0, rfl, h0, k0⟩ := tyAllQ_cons h
  obtain ⟨x1, y1, n1, rfl, h1, k1⟩ := tyAllQ_cons k0
  obtain ⟨x2, y2, n2, rfl, h2, k2⟩ := tyAllQ_cons k1
  obtain rfl := tyAllQ_nil k2
  obtain ⟨a0, rfl, w0⟩ := Dr.tq_sls h0
  obtain ⟨a1, rfl, w1⟩ := Dr.tq_chn h1
  obtain ⟨a2, rfl, w2⟩ := Dr.tq_bools h2
  simp only [argVsE, argVE, Tryd.underlying22, Tryd.underlying35, Tryd.underlying43, List.map_cons, List.map_nil]
  exact Dr.l6 a0 a1 a2 w0 w1

set_option maxRecDepth 100000 in
theorem door_met (os : Os) (args : Array Value) : laidMetH Tryd.prog LD ((World.doorLaid Tryd.prog 400 os).forCall (fun _ _ => 0) ⟨#[], args, []⟩).memory :=
  laidMetH_of_parts3 (fuel := 8) (laidMet_of_run' 8 (by kernel_rfl) (by kernel_rfl)) (by kernel_rfl) (by kernel_rfl)

theorem reads (os : Os) {H : Type} (enc : TypeId × Value → H) : ∃ places, DataW.whole enc Tryd.prog ((World.doorLaid Tryd.prog 400 os).forCall (fun _ _ => 0) ⟨#[], #[.slice none 0 0, .agg #[.string ⟨#[]⟩, .string ⟨#[]⟩, .slice none 0 0], .slice none 0 0], []⟩).memory Tryd.f6.params.toList Rows.driverSendsSpec.vars false (#[.slice none 0 0, .agg #[.string ⟨#[]⟩, .string ⟨#[]⟩, .slice none 0 0], .slice none 0 0] : Array Value).toList 8 = some ([.nil, .agg [.lit (.string []), .lit (.string []), .nil], .nil], [], places) :=
  ⟨[], by kernel_rfl⟩

set_option maxRecDepth 100000 in
theorem contract (H : Type) (enc : TypeId × Value → H) (W : World) (base : Nat) (args : Array Value) (ds gs : List (DataW H)) (before : List MemPlace)
    (hval0 : ∀ (j : Nat) t v, Tryd.f6.params[j]? = some t → args[j]? = some v → Value.okWide Tryd.prog W .any base t v)
    (hW : DataW.Whole enc Tryd.prog Tryd.f6.params.toList Rows.driverSendsSpec.vars false W args.toList ds gs before) (hcond : Rows.uptoSmall H (ds ++ gs) = true) (hL : laidMetH Tryd.prog LD W) :
    Calls Tryd.prog 6 args W fun e W' => ∃ v, e = .returned v ∧ Rows.driverSendsSpec.post enc Tryd.prog Tryd.f6 false true false false W args v W' := by
  have hG : GW (fun b => b < W.heap.size) W := gw_of_laid (nm := "testbench/lexer.keywords") (t := 33) (s := 9) hL (by kernel_rfl) (by kernel_rfl) Tryd.underlying33 Tryd.underlying9 (by kernel_rfl)
  have hval : ∀ (j : Nat) t v, Tryd.f6.params[j]? = some t → args[j]? = some v → Value.okWide Tryd.prog W .any base t v := hval0
  have hW' := hW
  obtain ⟨p, q, hA0, hV, rfl, hfz, hnd⟩ := hW
  have hA : DataW.TrodAll enc Tryd.prog W 0 (fun _ => true) true Tryd.f6.params.toList args.toList ds p := hA0
  rw [Tryd.params6] at hA hval
  have hA2 : DataW.TrodAll enc Tryd.prog W 0 (fun _ => true) true [22, 35, 43] args.toList ds p := hA
  obtain ⟨rfl, rfl⟩ := trodVars_none hV
  have hsz : (DataW.weightsEach Tryd.prog [22, 35, 43] ds).all (· ≤ 72 * 1048576) = true := Dr.wt_args (S := [3, 4, 9, 22, 33, 35, 43, 44, 46, 48]) (by kernel_rfl) (by decide +kernel) (by decide) (by decide) (by have h := hcond; rw [List.append_nil ds] at h; exact h)
  have hc := law_callsQ (r := .any) (base := base) (S := [3, 4, 9, 22, 33, 35, 43, 44, 46, 48]) (f := 6) hG (by kernel_rfl) all (by decide) hA2 (fun j t v h1 h2 => hval j t v (by simpa using h1) (by simpa using h2)) hsz
  obtain ⟨v0, vs0, d0, ds0, p0, q0, hargs0, rfl, hp0, g0, r0⟩ := trodAll_cons hA
  obtain ⟨v1, vs1, d1, ds1, p1, q1, hargs1, rfl, hp1, g1, r1⟩ := trodAll_cons r0
  obtain ⟨v2, vs2, d2, ds2, p2, q2, hargs2, rfl, hp2, g2, r2⟩ := trodAll_cons r1
  obtain ⟨hnil, rfl, hpn⟩ := trodAll_nil r2
  have hlt := hW'.lt
  refine hc.mono fun e W' ⟨he, hg⟩ => ?_
  subst he
  exact ⟨_, rfl, post_kept (pa := p) (pv := []) hW' (fun _ _ _ => (trodAll_cons_mk (shut_bool Tryd.underlying4 _) trodAll_mk0)) (fun sp hs => by
    rw [Tryd.params6]
    exact kept_args (by kernel_rfl) hg (by decide +kernel) hA2 (fun x hx => hlt x (List.mem_append_left _ hx)) fun x hx => hs x (List.mem_append_left _ hx)) (fun _ _ => rfl) rfl hg⟩

set_option maxRecDepth 100000 in
theorem lifted (os : Os) (started : os.Started) (H : Type) (enc : TypeId × Value → H) (F : Stop.Interp) :
    ReturnsInHanded {} Tryd.checked os 6 .any ((Rows.OpenSpec.upto Rows.driverSendsSpec).preRow enc Tryd.prog Tryd.f6 Rows.driverSendsUptoRow.domain false Rows.driverSendsUptoRow.laid) (((Rows.OpenSpec.upto Rows.driverSendsSpec).at F).post enc Tryd.prog Tryd.f6 false true false false) := by
  obtain ⟨places, hx⟩ := reads os enc
  refine returnsInHanded_of_row (C := Tryd.checked) (s := Rows.OpenSpec.upto Rows.driverSendsSpec) own started (by kernel_rfl) Tryd.func6
    (witness_row_atRef (enc := enc) (C := Tryd.checked) false (World.doorLaid Tryd.prog 400 os) #[.slice none 0 0, .agg #[.string ⟨#[]⟩, .string ⟨#[]⟩, .slice none 0 0], .slice none 0 0] rfl (by kernel_rfl) (by kernel_rfl) (by kernel_rfl)
      (OpenSpec.preRow_of_cond 8 hx (by kernel_rfl) (fun k hk => by cases hk; kernel_rfl) (by kernel_rfl) (door_met os _))) ?_
  intro W base args ds gs before hval hW _ hcond _ hL _ _
  exact contract H enc W base args ds gs before hval hW (hcond _ rfl) hL

theorem over : Rows.DriverSendsUptoSaid :=
  OpenClaim.holds_of_cond 6 Tryd.f6 rfl rfl rfl rfl rfl rfl rfl ⟨rfl, rfl, rfl, rfl, rfl⟩ rfl rfl rfl rfl rfl (by kernel_rfl) Tryd.func6 (by kernel_rfl)
    (of_decide_eq_true (by kernel_rfl)) (by unfold Func.isWrapper; first | (rw [if_pos (by decide +kernel)]; kernel_rfl) | (rw [if_neg (by decide +kernel)]; exact ⟨rfl, rfl⟩))
    (fun os started H enc _ F => by rw [OpenClaim.pre_eq_preRow]; exact lifted os started H enc F)

theorem proved : Rows.DriverSendsUptoCardSaid :=
  Claim7.holds_tied_plain_at .later [] [.widerDeep] true (true, "dfecd5e0a4a7dcb01ca4f915318adea62aff8f42fbb21b495dddf563a30baf07") false
    over (fun _ h => by cases h) (by kernel_rfl) (fun _ h => by cases h) driverSendsUpto_row_tie rfl ⟨rfl, rfl⟩ (by kernel_rfl) rfl
    (fun f fn hf hfn => by
      obtain rfl : f = 6 := Option.some.inj ((show Tryd.prog.funcNamed "testbench/testbenchlaw36.DriverSends" = some 6 by kernel_rfl).symm.trans hf) |>.symm
      obtain rfl : fn = Tryd.f6 := (Option.some.inj (Tryd.func6.symm.trans hfn)).symm
      exact ⟨by kernel_rfl, fun j t ht => by
        rw [Tryd.params6] at ht
        have hm : t ∈ [22, 35, 43] := by simpa using Array.mem_of_getElem? ht
        have hall : ([22, 35, 43].all fun u => !Tryd.prog.wantsStandIn u) = true := by kernel_rfl
        exact (show Tryd.prog.wantsStandIn t = false by simpa using List.all_eq_true.1 hall t hm)⟩)
    (by kernel_rfl)
#print axioms proved
end Go.Proofs.YtacjcacadekceaaDoor.driverSends
