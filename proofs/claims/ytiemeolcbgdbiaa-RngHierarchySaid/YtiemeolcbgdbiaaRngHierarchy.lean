/- Proved: the law RngHierarchy returns true for every input that the row admits, and its arguments read behind the call as before. Conditions: none but the row's own. -/
import Derived.Test.YtiemeolcbgdbiaaRows
import Derived.WalkKit
import Derived.ProofKit
import Derived.OpenShut
import Derived.Test.YtiemeolcbgdbiaaL5
import Derived.Test.YtiemeolcbgdbiaaVxArg
namespace Go.Proofs.Ytiemeolcbgdbiaa.rngHierarchy
open Go.Vx Go.ChangeShapes Go.WideShapes Go.ChangeAt Go.RowKit
set_option linter.unusedVariables false
set_option linter.unusedSimpArgs false

theorem own : ownKnob Try.prog.godebug = none := by kernel_rfl

set_option maxRecDepth 100000 in
theorem all (xss : List (List D)) (h : TyAll Try.prog 8 [24, 9, 5] xss) : CallP Try.prog 9 (argVs Try.prog [24, 9, 5] xss) (.d (.bool true)) := by
  obtain ⟨x0, y0, rfl, h0, k0⟩ := tyAll_cons h
  obtain ⟨x1, y1, rfl, h1, k1⟩ := tyAll_cons k0
  obtain ⟨x2, y2, rfl, h2, k2⟩ := tyAll_cons k1
  obtain rfl := tyAll_nil k2
  obtain ⟨a0, rfl, w0⟩ := Rg.ty_rng (n := 6) h0
  obtain ⟨a1, rfl, w1⟩ := ty_str (n := 7) Try.underlying9 h1
  obtain ⟨a2, rfl, w2⟩ := ty_int (n := 7) Try.underlying5 h2
  simp only [argVs, argV, Try.underlying5, Try.underlying9, Try.underlying24, List.map_cons, List.map_nil]
  exact Rg.l9' a0.1 a0.2 a1 w1 a2 w2

set_option maxRecDepth 100000 in
theorem lifted (os : Os) (started : os.Started) (H : Type) (enc : TypeId × Value → H) :
    ReturnsInHanded {} Try.checked os 9 .any (Rows.rngHierarchySpec.pre6 enc Try.prog Try.f9 Rows.rngHierarchyRow.domain false) (Rows.rngHierarchySpec.post enc Try.prog Try.f9 false true false false) := by
  refine returnsInHanded_of_change (C := Try.checked) own started (by kernel_rfl) Try.func9
    (ChangeSpec.witness6 (enc := enc) (C := Try.checked) false ⟨#[], #[.agg #[.int .u64 0, .int .u64 0], .string ⟨#[]⟩, .int .u8 0], []⟩ 8 (by kernel_rfl) (by kernel_rfl) (by kernel_rfl) (by kernel_rfl)) ?_
  intro W base args ds gs before hval0 hW hcnd _
  have hval : ∀ (j : Nat) t v, Try.f9.params[j]? = some t → args[j]? = some v → Value.okWide Try.prog W .any base t v := hval0
  have hW' := hW
  obtain ⟨p, q, hA0, hV, rfl, hfz, hnd⟩ := hW
  have hA : DataW.TrodAll enc Try.prog W 0 (fun _ => true) true Try.f9.params.toList args.toList ds p := hA0
  rw [Try.params9] at hA hval
  have hA2 : DataW.TrodAll enc Try.prog W 0 (fun _ => true) true [24, 9, 5] args.toList ds p := hA
  obtain ⟨rfl, rfl⟩ := trodVars_none hV
  have hc := law_calls (r := .any) (base := base) (n := 8) (f := 9) all (by decide +kernel) hA2 (fun j t v h1 h2 => hval j t v (by simpa using h1) (by simpa using h2))
  obtain ⟨v0, vs0, d0, ds0, p0, q0, hargs0, rfl, hp0, g0, r0⟩ := trodAll_cons hA
  obtain ⟨v1, vs1, d1, ds1, p1, q1, hargs1, rfl, hp1, g1, r1⟩ := trodAll_cons r0
  obtain ⟨v2, vs2, d2, ds2, p2, q2, hargs2, rfl, hp2, g2, r2⟩ := trodAll_cons r1
  obtain ⟨hnil, rfl, hpn⟩ := trodAll_nil r2
  have hlt := hW'.lt
  refine hc.mono fun e W' ⟨he, hg⟩ => ?_
  subst he
  exact ⟨_, rfl, post_kept (pa := p) (pv := []) hW' (fun _ _ _ => (trodAll_cons_mk (shut_bool Try.underlying4 _) trodAll_mk0)) (fun sp hs => by
    rw [Try.params9]
    exact kept_args (by kernel_rfl) hg (by decide +kernel) hA2 (fun x hx => hlt x (List.mem_append_left _ hx)) fun x hx => hs x (List.mem_append_left _ hx)) (fun _ _ => rfl) rfl hg⟩

theorem over : Rows.rngHierarchyRow.holds Try.pinned (OpenSpec.ofChange Rows.rngHierarchySpec) :=
  OpenClaim.holds_of_wide 9 Try.f9 rfl rfl rfl rfl rfl rfl rfl ⟨rfl, rfl, rfl, rfl, rfl⟩ rfl rfl rfl rfl rfl (by kernel_rfl) Try.func9 (by kernel_rfl)
    (of_decide_eq_true (by kernel_rfl)) (by unfold Func.isWrapper; first | (rw [if_pos (by decide +kernel)]; kernel_rfl) | (rw [if_neg (by decide +kernel)]; exact ⟨rfl, rfl⟩))
    (fun os started H enc _ => lifted os started H enc)

theorem proved : Rows.RngHierarchySaid :=
  over
#print axioms proved
end Go.Proofs.Ytiemeolcbgdbiaa.rngHierarchy
