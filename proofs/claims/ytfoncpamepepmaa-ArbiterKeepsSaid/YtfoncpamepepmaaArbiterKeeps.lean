/- Proved: the law ArbiterKeeps returns true for every input that the row admits, and its arguments read behind the call as before. Conditions: none but the row's own. -/
import Derived.Test.YtfoncpamepepmaaRows
import Derived.WalkKit
import Derived.ProofKit
import Derived.OpenShut
import Derived.Test.YtfoncpamepepmaaL8
import Derived.Test.YtfoncpamepepmaaVxArg2
namespace Go.Proofs.Ytfoncpamepepmaa.arbiterKeeps
open Go.Vx Go.ChangeShapes Go.WideShapes Go.ChangeAt Go.RowKit
set_option linter.unusedVariables false
set_option linter.unusedSimpArgs false

theorem own : ownKnob Try.prog.godebug = none := by kernel_rfl

set_option maxRecDepth 100000 in
theorem all (xss : List (List D)) (h : TyAllE Try.prog [22, 41] xss) : CallP Try.prog 8 (argVsE Try.prog [22, 41] xss) (.d (.bool true)) := by
  obtain ⟨x0, y0, n0, rfl, h0, k0⟩ := tyAllE_cons h
  obtain ⟨x1, y1, n1, rfl, h1, k1⟩ := tyAllE_cons k0
  obtain rfl := tyAllE_nil k1
  obtain ⟨a0, rfl, w0⟩ := Ar.te_ll h0
  obtain ⟨a1, rfl, w1⟩ := Ar.te_rng h1
  simp only [argVsE, argVE, Try.underlying22, Try.underlying41, List.map_cons, List.map_nil]
  exact Ar.l8 a0 a1.1 a1.2 w0

set_option maxRecDepth 100000 in
theorem lifted (os : Os) (started : os.Started) (H : Type) (enc : TypeId × Value → H) :
    ReturnsInHanded {} Try.checked os 8 .any (Rows.arbiterKeepsSpec.pre6 enc Try.prog Try.f8 Rows.arbiterKeepsRow.domain false) (Rows.arbiterKeepsSpec.post enc Try.prog Try.f8 false true false false) := by
  refine returnsInHanded_of_change (C := Try.checked) own started (by kernel_rfl) Try.func8
    (ChangeSpec.witness6 (enc := enc) (C := Try.checked) false ⟨#[], #[.slice none 0 0, .agg #[.int .u64 0, .int .u64 0]], []⟩ 8 (by kernel_rfl) (by kernel_rfl) (by kernel_rfl) (by kernel_rfl)) ?_
  intro W base args ds gs before hval0 hW hcnd _
  have hval : ∀ (j : Nat) t v, Try.f8.params[j]? = some t → args[j]? = some v → Value.okWide Try.prog W .any base t v := hval0
  have hW' := hW
  obtain ⟨p, q, hA0, hV, rfl, hfz, hnd⟩ := hW
  have hA : DataW.TrodAll enc Try.prog W 0 (fun _ => true) true Try.f8.params.toList args.toList ds p := hA0
  rw [Try.params8] at hA hval
  have hA2 : DataW.TrodAll enc Try.prog W 0 (fun _ => true) true [22, 41] args.toList ds p := hA
  obtain ⟨rfl, rfl⟩ := trodVars_none hV
  have hc := law_callsE (r := .any) (base := base) (S := [3, 4, 9, 22, 25, 31, 33, 35, 37, 39, 41]) (f := 8) (by kernel_rfl) all (by decide) hA2 (fun j t v h1 h2 => hval j t v (by simpa using h1) (by simpa using h2))
  obtain ⟨v0, vs0, d0, ds0, p0, q0, hargs0, rfl, hp0, g0, r0⟩ := trodAll_cons hA
  obtain ⟨v1, vs1, d1, ds1, p1, q1, hargs1, rfl, hp1, g1, r1⟩ := trodAll_cons r0
  obtain ⟨hnil, rfl, hpn⟩ := trodAll_nil r1
  have hlt := hW'.lt
  refine hc.mono fun e W' ⟨he, hg⟩ => ?_
  subst he
  exact ⟨_, rfl, post_kept (pa := p) (pv := []) hW' (fun _ _ _ => (trodAll_cons_mk (shut_bool Try.underlying4 _) trodAll_mk0)) (fun sp hs => by
    rw [Try.params8]
    exact kept_args (by kernel_rfl) hg (by decide +kernel) hA2 (fun x hx => hlt x (List.mem_append_left _ hx)) fun x hx => hs x (List.mem_append_left _ hx)) (fun _ _ => rfl) rfl hg⟩

theorem over : Rows.arbiterKeepsRow.holds Try.pinned (OpenSpec.ofChange Rows.arbiterKeepsSpec) :=
  OpenClaim.holds_of_wide 8 Try.f8 rfl rfl rfl rfl rfl rfl rfl ⟨rfl, rfl, rfl, rfl, rfl⟩ rfl rfl rfl rfl rfl (by kernel_rfl) Try.func8 (by kernel_rfl)
    (of_decide_eq_true (by kernel_rfl)) (by unfold Func.isWrapper; first | (rw [if_pos (by decide +kernel)]; kernel_rfl) | (rw [if_neg (by decide +kernel)]; exact ⟨rfl, rfl⟩))
    (fun os started H enc _ => lifted os started H enc)

theorem proved : Rows.ArbiterKeepsSaid :=
  over
#print axioms proved
end Go.Proofs.Ytfoncpamepepmaa.arbiterKeeps
