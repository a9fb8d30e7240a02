/- Proved: the card of the law TopCores: the law returns true for every input that the row admits, its arguments read behind the call as before, and the listed variables are tied to the program's text. Conditions: the row's own: the listed variables hold at the start what the program's text lays. -/
import Derived.Test.YtmhkppbollghoaaGreatDoorRows
import Derived.Test.YtmhkppbollghoaaGreatDoorCards
import Derived.Test.YtmhkppbollghoaaGreatDoorTie
import Derived.WalkKit
import Derived.ProofKit
import Derived.LaidMore
import Derived.OpenShut
import Derived.Stop.Joined
import Derived.SevenTiedAt
import Derived.Test.YtmhkppbollghoaaGreatDoorA1
namespace Go.Proofs.YtmhkppbollghoaaGreatDoor.topCores
open Go.Vx Go.ChangeShapes Go.WideShapes Go.ChangeAt Go.RowKit
set_option linter.unusedVariables false
set_option linter.unusedSimpArgs false

theorem own : ownKnob Tryz.prog.godebug = none := by kernel_rfl
abbrev LD : List (String × DataW Unit) := [("math/bits.deBruijn32tab", Rows.laid_math_bits_deBruijn32tab), ("math/bits.deBruijn64tab", Rows.laid_math_bits_deBruijn64tab), ("internal/strconv.uint64pow10", Rows.laid_internal_strconv_uint64pow10), ("testbench/lexer.keywords", Rows.laid_testbench_lexer_keywords)]

set_option maxRecDepth 100000 in
theorem all (xss : List (List D)) (h : TyAllR Tryz.prog [27, 5] xss) : CallP Tryz.prog 4 (argVsE Tryz.prog [27, 5] xss) (.d (.bool true)) := by
  obtain ⟨x0, y0, n0, rfl, h0, k0⟩ := tyAllR_cons h
  obtain ⟨x1, y1, n1, rfl, h1, k1⟩ := tyAllR_cons k0
  obtain rfl := tyAllR_nil k1
  obtain ⟨a0, rfl, w0⟩ := Tp.tr_pr h0
  obtain ⟨a1, rfl, w1⟩ := tr_int Tryz.underlying5 h1
  simp only [argVsE, argVE, Tryz.underlying5, Tryz.underlying27, List.map_cons, List.map_nil]
  exact Tp.w4 a0 a1 w0 w1

set_option maxRecDepth 100000 in
theorem door_met (os : Os) (args : Array Value) : laidMetH Tryz.prog LD ((World.doorLaid Tryz.prog 400 os).forCall (fun _ _ => 0) ⟨#[], args, []⟩).memory :=
  laidMetH_of_parts3 (fuel := 8) (laidMet_of_run' 8 (by kernel_rfl) (by kernel_rfl)) (by kernel_rfl) (by kernel_rfl)

set_option maxRecDepth 100000 in
theorem lifted (os : Os) (started : os.Started) (H : Type) (enc : TypeId × Value → H) :
    ReturnsInHanded {} Tryz.checked os 4 .any (fun w args => (Rows.topCoresSpec.pre enc Tryz.prog Tryz.f4 [] false w args ∧ laidMetH Tryz.prog LD w) ∧ sizedMet enc Tryz.prog Tryz.f4 (OpenSpec.ofChange Rows.topCoresSpec) false w args) (Rows.topCoresSpec.post enc Tryz.prog Tryz.f4 false true false false) := by
  refine returnsInHanded_of_change_and (C := Tryz.checked) (X := fun w _ => laidMetH Tryz.prog LD w) (fun _ _ _ hh h => h.of_heap hh) own started (by kernel_rfl) Tryz.func4
    (ChangeSpec.witness_shaped (enc := enc) (C := Tryz.checked) (os := os) (X := fun w _ => laidMetH Tryz.prog LD w) false (World.doorLaid Tryz.prog 400 os) #[.agg #[.slice none 0 0, .slice none 0 0, .slice none 0 0, .slice none 0 0, .slice none 0 0], .int .u8 0] 8 rfl (World.shaped_of_RefB (by kernel_rfl) (by kernel_rfl)) (by kernel_rfl) (by kernel_rfl) (by kernel_rfl) (door_met os _)) ?_
  intro W base args ds gs before hval0 hW _ hsz0 hL _
  have hG : GW (fun b => b < W.heap.size) W := gw_laid4 (nm := "testbench/lexer.keywords") (t := 173) (s := 9) (by kernel_rfl) hL (by kernel_rfl) (by kernel_rfl) Tryz.underlying173 Tryz.underlying9 (by kernel_rfl)
  have hval : ∀ (j : Nat) t v, Tryz.f4.params[j]? = some t → args[j]? = some v → Value.okWide Tryz.prog W .any base t v := hval0
  have hW' := hW
  obtain ⟨p, q, hA0, hV, rfl, hfz, hnd⟩ := hW
  have hA : DataW.TrodAll enc Tryz.prog W 0 (fun _ => true) true Tryz.f4.params.toList args.toList ds p := hA0
  rw [Tryz.params4] at hA hval
  have hA2 : DataW.TrodAll enc Tryz.prog W 0 (fun _ => true) true [27, 5] args.toList ds p := hA
  obtain ⟨rfl, rfl⟩ := trodVars_none hV
  have hsz : (DataW.weightsEach Tryz.prog [27, 5] ds).all (· ≤ reachBytes) = true := by have h := hsz0; rw [List.append_nil ds] at h; exact h
  have hc := law_callsR (r := .any) (base := base) (S := [3, 4, 5, 9, 22, 23, 24, 25, 27, 44, 48, 70, 80, 82, 125]) (f := 4) hG (by kernel_rfl) all (by decide) hA2 (fun j t v h1 h2 => hval j t v (by simpa using h1) (by simpa using h2)) hsz
  obtain ⟨v0, vs0, d0, ds0, p0, q0, hargs0, rfl, hp0, g0, r0⟩ := trodAll_cons hA
  obtain ⟨v1, vs1, d1, ds1, p1, q1, hargs1, rfl, hp1, g1, r1⟩ := trodAll_cons r0
  obtain ⟨hnil, rfl, hpn⟩ := trodAll_nil r1
  have hlt := hW'.lt
  refine hc.mono fun e W' ⟨he, hg⟩ => ?_
  subst he
  exact ⟨_, rfl, post_kept (pa := p) (pv := []) hW' (fun _ _ _ => (trodAll_cons_mk (shut_bool Tryz.underlying4 _) trodAll_mk0)) (fun sp hs => by
    rw [Tryz.params4]
    exact kept_args (by kernel_rfl) hg (by decide +kernel) hA2 (fun x hx => hlt x (List.mem_append_left _ hx)) fun x hx => hs x (List.mem_append_left _ hx)) (fun _ _ => rfl) rfl hg⟩

theorem over : Rows.TopCoresSaid :=
  OpenClaim.holds_of_wide 4 Tryz.f4 rfl rfl rfl rfl rfl rfl rfl ⟨rfl, rfl, rfl, rfl, rfl⟩ rfl rfl rfl rfl rfl (by kernel_rfl) Tryz.func4 (by kernel_rfl)
    (of_decide_eq_true (by kernel_rfl)) (by unfold Func.isWrapper; first | (rw [if_pos (by decide +kernel)]; kernel_rfl) | (rw [if_neg (by decide +kernel)]; exact ⟨rfl, rfl⟩))
    (fun os started H enc _ => lifted os started H enc)

theorem proved : Rows.TopCoresCardSaid :=
  Claim7.holds_tied_plain_at .later [] [.data, .data, .data, .widerDeep] true (true, "61b5febd8429c882e2d0061e7233208d11695e2a710c077d555023d4aad768eb") true
    over (fun _ h => by cases h) (by kernel_rfl) (fun _ h => by cases h) topCores_row_tie rfl ⟨rfl, rfl⟩ (by kernel_rfl) rfl
    (fun f fn hf hfn => by
      obtain rfl : f = 4 := Option.some.inj ((show Tryz.prog.funcNamed "testbench/testbenchtop.TopCores" = some 4 by kernel_rfl).symm.trans hf) |>.symm
      obtain rfl : fn = Tryz.f4 := (Option.some.inj (Tryz.func4.symm.trans hfn)).symm
      exact ⟨by kernel_rfl, fun j t ht => by
        rw [Tryz.params4] at ht
        have hm : t ∈ [27, 5] := by simpa using Array.mem_of_getElem? ht
        have hall : ([27, 5].all fun u => !Tryz.prog.wantsStandIn u) = true := by kernel_rfl
        exact (show Tryz.prog.wantsStandIn t = false by simpa using List.all_eq_true.1 hall t hm)⟩)
    (by kernel_rfl)
#print axioms proved
end Go.Proofs.YtmhkppbollghoaaGreatDoor.topCores
