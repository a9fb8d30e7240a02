import Derived.Test.YtgdipflkmafpcaaR8
import Derived.Test.YtgdipflkmafpcaaVxArg
set_option linter.unusedSimpArgs false
set_option linter.unusedVariables false
namespace Go.Proofs.Rf
open Go.Vx
theorem cells3 : Try.prog.cellsOf 3 = 1 := by kernel_rfl
theorem cells9 : Try.prog.cellsOf 9 = 1 := by kernel_rfl
theorem cells35 : Try.prog.cellsOf 35 = 2 := by kernel_rfl
theorem ty_tx {n : Nat} {ys : List D} (h : TyD Try.prog (n + 3) 35 ys) : ∃ t : Tx, ys = txD t ∧ t.1.length ≤ maxLen ∧ t.2.length ≤ maxLen := by
  obtain ⟨a, b, rfl, h1, h2⟩ := ty_struct2 Try.underlying35 h
  obtain ⟨l, rfl, hl, _⟩ := ty_sl (f := fun s => [.str s]) (ok := fun _ => True) Try.underlying22 (fun ys h => let ⟨s, e, _⟩ := ty_str Try.underlying9 h; ⟨s, e, trivial⟩) h1
  obtain ⟨m, rfl, hm, _⟩ := ty_sl (f := fun s => [.int .i64 s]) (ok := fun _ => True) Try.underlying33 (fun ys h => let ⟨s, e, _⟩ := ty_int Try.underlying3 h; ⟨s, e, trivial⟩) h2
  rw [cells9, cells3]
  exact ⟨(l, m), rfl, hl, hm⟩
theorem ty_txs {n : Nat} {ys : List D} (h : TyD Try.prog (n + 4) 26 ys) : ∃ l : List Tx, ys = [.sl 2 (txs l)] ∧ okL l := by
  obtain ⟨l, rfl, hl, h2⟩ := ty_sl (f := txD) Try.underlying26 (fun ys h => ty_tx h) h
  rw [cells35]
  exact ⟨l, rfl, hl, h2⟩
end Go.Proofs.Rf
