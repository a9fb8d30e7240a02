import Derived.Test.YtapgahonfifgnaaDoorL1
import Derived.Test.YtapgahonfifgnaaDoorVxArg3
set_option linter.unusedSimpArgs false
set_option linter.unusedVariables false
namespace Go.Proofs.Sg
open Go.Vx
theorem te_cov {n : Nat} {ys : List D} (h : TyE Tryd.prog n 25 ys) : ∃ a b c d, ys = [a, b, c, d] := by
  obtain ⟨m, a, b, c, d, rfl, h1, h2, h3, h4⟩ := te_struct4 Tryd.underlying25 h
  obtain ⟨x, rfl⟩ := te_one Tryd.underlying23 h1
  obtain ⟨y, rfl⟩ := te_one Tryd.underlying23 h2
  obtain ⟨z, rfl, _⟩ := te_int Tryd.underlying3 h3
  obtain ⟨w, rfl, _⟩ := te_int Tryd.underlying3 h4
  exact ⟨_, _, _, _, rfl⟩
theorem te_rz {n : Nat} {ys : List D} (h : TyE Tryd.prog n 27 ys) : ∃ r : Rz, ys = r.d ∧ okR r := by
  obtain ⟨m, yss, h1, h2, rfl⟩ := te_struct Tryd.underlying27 h
  match yss, h1 with
  | [a0, a1, a2, a3, a4, a5, a6, a7], _ =>
    obtain ⟨x0, rfl, w0⟩ := te_str Tryd.underlying9 (h2 0 _ a0 rfl rfl).2
    obtain ⟨x1, rfl, _⟩ := te_int Tryd.underlying22 (h2 1 _ a1 rfl rfl).2
    obtain ⟨x2, rfl, w2⟩ := te_str Tryd.underlying9 (h2 2 _ a2 rfl rfl).2
    obtain ⟨x3, rfl, w3⟩ := te_str Tryd.underlying9 (h2 3 _ a3 rfl rfl).2
    obtain ⟨x4, rfl, _⟩ := te_int Tryd.underlying3 (h2 4 _ a4 rfl rfl).2
    obtain ⟨x5, rfl, _⟩ := te_int Tryd.underlying3 (h2 5 _ a5 rfl rfl).2
    obtain ⟨x6, rfl, _⟩ := te_int Tryd.underlying3 (h2 6 _ a6 rfl rfl).2
    obtain ⟨c0, c1, c2, c3, rfl⟩ := te_cov (h2 7 _ a7 rfl rfl).2
    exact ⟨⟨x0, .int .u64 x1, x2, x3, x4, x5, x6, c0, c1, c2, c3⟩, rfl, w0, w2, w3⟩
theorem te_rl {n : Nat} {ys : List D} (h : TyE Tryd.prog n 29 ys) : ∃ l : List Rz, ys = [.sl 11 (l.map Rz.d)] ∧ l.length ≤ maxLen ∧ ∀ r ∈ l, okR r := by
  obtain ⟨l, rfl, h1, h2⟩ := te_sl (f := Rz.d) (ok := okR) Tryd.underlying29 (fun n ys hy => te_rz hy) h
  exact ⟨l, rfl, h1, h2⟩
end Go.Proofs.Sg
