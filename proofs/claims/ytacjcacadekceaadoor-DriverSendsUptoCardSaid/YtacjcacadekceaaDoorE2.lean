import Derived.Test.YtacjcacadekceaaDoorW5
import Derived.Test.YtacjcacadekceaaDoorVxArg5
import Derived.Test.YtacjcacadekceaaDoorE1
set_option linter.unusedSimpArgs false
set_option linter.unusedVariables false
namespace Go.Proofs.Dr
open Go.Vx
abbrev RB : Nat := 72 * 1048576
theorem rb_le {n : Nat} (h : n ≤ RB) : n ≤ reachBytes := by rw [rchN]; unfold RB at h; omega
theorem tq_names {n : Nat} {ys : List D} (h : TyQ RB Tryd.prog n 33 ys) : ∃ l : List B, ys = [.sl 1 (strs l)] ∧ l.length * 16 ≤ RB ∧ ∀ s ∈ l, s.length ≤ RB := by
  obtain ⟨l, rfl, h1, h2⟩ := tq_sl (f := sD) (ok := fun s => s.length ≤ RB) Tryd.underlying33 (fun n ys hy => by obtain ⟨s, rfl, h⟩ := tq_str Tryd.underlying9 hy; exact ⟨s, rfl, h⟩) h
  rw [byt9] at h1
  exact ⟨l, by rw [cel9], h1, h2⟩
theorem tq_vals {n : Nat} {ys : List D} (h : TyQ RB Tryd.prog n 44 ys) : ∃ l : List Int, ys = [.sl 1 (ints l)] ∧ l.length * 8 ≤ RB := by
  obtain ⟨l, rfl, h1, h2⟩ := tq_sl (f := iD) (ok := fun _ => True) Tryd.underlying44 (fun n ys hy => by obtain ⟨s, rfl, h⟩ := tq_int Tryd.underlying3 hy; exact ⟨s, rfl, trivial⟩) h
  rw [byt3] at h1
  exact ⟨l, by rw [cel3], h1⟩
theorem tq_slo {n : Nat} {ys : List D} (h : TyQ RB Tryd.prog n 48 ys) : ∃ s : Slo, ys = s.d ∧ okT s.tx := by
  obtain ⟨m, a, b, c, rfl, h1, h2, h3⟩ := tq_struct3 Tryd.underlying48 h
  obtain ⟨i, rfl⟩ := tq_bool Tryd.underlying4 h1
  obtain ⟨m2, x, y, rfl, h4, h5⟩ := tq_struct2 Tryd.underlying46 h2
  obtain ⟨ns, rfl, k1, k2⟩ := tq_names h4
  obtain ⟨vs, rfl, k3⟩ := tq_vals h5
  obtain ⟨p, rfl, _⟩ := tq_str Tryd.underlying9 h3
  exact ⟨⟨i, (ns, vs), p⟩, rfl, rb_le k1, rb_le k3, fun s hs => rb_le (k2 s hs)⟩
theorem tq_sls {n : Nat} {ys : List D} (h : TyQ RB Tryd.prog n 22 ys) : ∃ l : List Slo, ys = [.sl 4 (l.map Slo.d)] ∧ okLs l := by
  obtain ⟨l, rfl, h1, h2⟩ := tq_sl (f := Slo.d) (ok := fun s => okT s.tx) Tryd.underlying22 (fun n ys hy => tq_slo hy) h
  rw [byt48] at h1
  exact ⟨l, by rw [cel48], rb_le h1, h2⟩
theorem tq_dv {n : Nat} {ys : List D} (h : TyQ RB Tryd.prog n 24 ys) : ∃ d : Dv, ys = d.d ∧ okLs d.sl := by
  obtain ⟨m, a, b, c, rfl, h1, h2, h3⟩ := tq_struct3 Tryd.underlying24 h
  obtain ⟨l, rfl, k⟩ := tq_sls h1
  obtain ⟨x, rfl, _⟩ := tq_int Tryd.underlying3 h2
  obtain ⟨y, rfl, _⟩ := tq_int Tryd.underlying3 h3
  exact ⟨⟨l, x, y⟩, rfl, k⟩
theorem tq_chn {n : Nat} {ys : List D} (h : TyQ RB Tryd.prog n 35 ys) : ∃ c : Chn, ys = c.d ∧ c.fs.length ≤ 20000000 := by
  obtain ⟨m, a, b, c, rfl, h1, h2, h3⟩ := tq_struct3 Tryd.underlying35 h
  obtain ⟨x, rfl, _⟩ := tq_str Tryd.underlying9 h1
  obtain ⟨y, rfl, _⟩ := tq_str Tryd.underlying9 h2
  obtain ⟨l, rfl, k, _⟩ := tq_names h3
  exact ⟨⟨x, y, l⟩, rfl, by unfold RB at k; simp only; omega⟩
theorem tq_bools {n : Nat} {ys : List D} (h : TyQ RB Tryd.prog n 43 ys) : ∃ l : List Bool, ys = [.sl 1 (l.map bD)] ∧ True := by
  obtain ⟨l, rfl, _⟩ := tq_sl (f := bD) (ok := fun _ => True) Tryd.underlying43 (fun n ys hy => by obtain ⟨s, rfl⟩ := tq_bool Tryd.underlying4 hy; exact ⟨s, rfl, trivial⟩) h
  exact ⟨l, by rw [cel4], trivial⟩
end Go.Proofs.Dr
