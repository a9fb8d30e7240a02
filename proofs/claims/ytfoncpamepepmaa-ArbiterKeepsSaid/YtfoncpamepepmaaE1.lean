import Derived.Test.YtfoncpamepepmaaS
set_option linter.unusedSimpArgs false
set_option linter.unusedVariables false
namespace Go.Proofs.Ar
open Go.Vx
theorem te_names {n : Nat} {ys : List D} (h : TyE Try.prog n 31 ys) : ∃ l : List B, ys = [.sl 1 (l.map sD)] ∧ l.length ≤ maxLen := by
  obtain ⟨l, rfl, hl, _⟩ := te_sl (f := sD) (ok := fun _ => True) Try.underlying31 (fun n ys h => let ⟨s, e, _⟩ := te_str Try.underlying9 h; ⟨s, e, trivial⟩) h
  exact ⟨l, rfl, hl⟩
theorem te_vals {n : Nat} {ys : List D} (h : TyE Try.prog n 33 ys) : ∃ l : List Int, ys = [.sl 1 (l.map iD)] ∧ l.length ≤ maxLen := by
  obtain ⟨l, rfl, hl, _⟩ := te_sl (f := iD) (ok := fun _ => True) Try.underlying33 (fun n ys h => let ⟨s, e, _⟩ := te_int Try.underlying3 h; ⟨s, e, trivial⟩) h
  exact ⟨l, rfl, hl⟩
theorem te_slot {n : Nat} {ys : List D} (h : TyE Try.prog n 37 ys) : ∃ x : Sl, ys = slD x ∧ x.2.1.length ≤ maxLen ∧ x.2.2.1.length ≤ maxLen := by
  obtain ⟨m, a, b, c, rfl, h1, h2, h3⟩ := te_struct3 Try.underlying37 h
  obtain ⟨i, rfl⟩ := te_bool Try.underlying4 h1
  obtain ⟨m2, d, e, rfl, h4, h5⟩ := te_struct2 Try.underlying35 h2
  obtain ⟨ns, rfl, hn⟩ := te_names h4
  obtain ⟨vs, rfl, hv⟩ := te_vals h5
  obtain ⟨p, rfl, _⟩ := te_str Try.underlying9 h3
  exact ⟨(i, ns, vs, p), rfl, hn, hv⟩
theorem te_st {n : Nat} {ys : List D} (h : TyE Try.prog n 25 ys) : ∃ l : List Sl, ys = stD l ∧ l.length ≤ maxLen ∧ ∀ x ∈ l, x.2.1.length ≤ maxLen ∧ x.2.2.1.length ≤ maxLen :=
  te_sl (f := slD) (ok := fun x => x.2.1.length ≤ maxLen ∧ x.2.2.1.length ≤ maxLen) Try.underlying25 (fun n ys h => te_slot h) h
theorem te_ll {n : Nat} {ys : List D} (h : TyE Try.prog n 22 ys) : ∃ l : List (List Sl), ys = [.sl 1 (l.map stD)] ∧ okA l :=
  te_sl (f := stD) (ok := fun s => s.length ≤ maxLen ∧ ∀ x ∈ s, x.2.1.length ≤ maxLen ∧ x.2.2.1.length ≤ maxLen) Try.underlying22 (fun n ys h => te_st h) h
end Go.Proofs.Ar
