import Derived.Test.YtiemeolcbgdbiaaL1
set_option linter.unusedSimpArgs false
set_option linter.unusedVariables false
namespace Go.Proofs.Rg
open Go.Vx
theorem ty_rng {n : Nat} {ys : List D} (h : TyD Try.prog (n + 2) 24 ys) : ∃ p : W × W, ys = [.int .u64 p.1.toNat, .int .u64 p.2.toNat] ∧ True := by
  obtain ⟨a, b, rfl, h1, h2⟩ := ty_struct2 Try.underlying24 h
  obtain ⟨x, rfl, hx⟩ := ty_int Try.underlying22 h1
  obtain ⟨y, rfl, hy⟩ := ty_int Try.underlying22 h2
  obtain ⟨x, rfl⟩ := bv_u64 (lit_u64 hx)
  obtain ⟨y, rfl⟩ := bv_u64 (lit_u64 hy)
  exact ⟨(x, y), rfl, trivial⟩
theorem ty_ints {n : Nat} {ys : List D} (h : TyD Try.prog (n + 2) 30 ys) : ∃ l : List Int, ys = [.sl 1 (l.map iD)] ∧ l.length ≤ maxLen := by
  obtain ⟨l, rfl, hl, _⟩ := ty_sl (f := iD) (ok := fun _ => True) Try.underlying30 (fun ys h => let ⟨s, e, _⟩ := ty_int Try.underlying3 h; ⟨s, e, trivial⟩) h
  exact ⟨l, rfl, hl⟩
theorem l6' (k c : W) (a : Int) (ha : (Lit.int .u64 a).wf = true) : CallP Try.prog 6 [rngV k c, .d (.int .u64 a)] (.d (.bool true)) := by
  obtain ⟨x, rfl⟩ := bv_u64 (lit_u64 ha)
  exact l6 k c x
end Go.Proofs.Rg
