import Derived.Test.YtacjcacadekceaaDoorW5
import Derived.Test.YtacjcacadekceaaDoorVxArg4
set_option linter.unusedSimpArgs false
set_option linter.unusedVariables false
namespace Go.Proofs.Dr
open Go.Vx
theorem byt9 : Tryd.prog.bytesOf 9 = 16 := by kernel_rfl
theorem byt3 : Tryd.prog.bytesOf 3 = 8 := by kernel_rfl
theorem byt48 : Tryd.prog.bytesOf 48 = 72 := by kernel_rfl
theorem cel9 : Tryd.prog.cellsOf 9 = 1 := by kernel_rfl
theorem cel3 : Tryd.prog.cellsOf 3 = 1 := by kernel_rfl
theorem cel4 : Tryd.prog.cellsOf 4 = 1 := by kernel_rfl
theorem cel48 : Tryd.prog.cellsOf 48 = 4 := by kernel_rfl
theorem tr_names {n : Nat} {ys : List D} (h : TyR Tryd.prog n 33 ys) : ∃ l : List B, ys = [.sl 1 (strs l)] ∧ l.length * 16 ≤ reachBytes ∧ ∀ s ∈ l, s.length ≤ reachBytes := by
  obtain ⟨l, rfl, h1, h2⟩ := tr_sl (f := sD) (ok := fun s => s.length ≤ reachBytes) Tryd.underlying33 (fun n ys hy => by obtain ⟨s, rfl, h⟩ := tr_str Tryd.underlying9 hy; exact ⟨s, rfl, h⟩) h
  rw [byt9] at h1
  exact ⟨l, by rw [cel9], h1, h2⟩
theorem tr_vals {n : Nat} {ys : List D} (h : TyR Tryd.prog n 44 ys) : ∃ l : List Int, ys = [.sl 1 (ints l)] ∧ l.length * 8 ≤ reachBytes := by
  obtain ⟨l, rfl, h1, h2⟩ := tr_sl (f := iD) (ok := fun _ => True) Tryd.underlying44 (fun n ys hy => by obtain ⟨s, rfl, h⟩ := tr_int Tryd.underlying3 hy; exact ⟨s, rfl, trivial⟩) h
  rw [byt3] at h1
  exact ⟨l, by rw [cel3], h1⟩
theorem tr_slo {n : Nat} {ys : List D} (h : TyR Tryd.prog n 48 ys) : ∃ s : Slo, ys = s.d ∧ okT s.tx := by
  obtain ⟨m, a, b, c, rfl, h1, h2, h3⟩ := tr_struct3 Tryd.underlying48 h
  obtain ⟨i, rfl⟩ := tr_bool Tryd.underlying4 h1
  obtain ⟨m2, x, y, rfl, h4, h5⟩ := tr_struct2 Tryd.underlying46 h2
  obtain ⟨ns, rfl, k1, k2⟩ := tr_names h4
  obtain ⟨vs, rfl, k3⟩ := tr_vals h5
  obtain ⟨p, rfl, _⟩ := tr_str Tryd.underlying9 h3
  exact ⟨⟨i, (ns, vs), p⟩, rfl, k1, k3, k2⟩
theorem tr_sls {n : Nat} {ys : List D} (h : TyR Tryd.prog n 22 ys) : ∃ l : List Slo, ys = [.sl 4 (l.map Slo.d)] ∧ okLs l := by
  obtain ⟨l, rfl, h1, h2⟩ := tr_sl (f := Slo.d) (ok := fun s => okT s.tx) Tryd.underlying22 (fun n ys hy => tr_slo hy) h
  rw [byt48] at h1
  exact ⟨l, by rw [cel48], h1, h2⟩
theorem tr_dv {n : Nat} {ys : List D} (h : TyR Tryd.prog n 24 ys) : ∃ d : Dv, ys = d.d ∧ okLs d.sl := by
  obtain ⟨m, a, b, c, rfl, h1, h2, h3⟩ := tr_struct3 Tryd.underlying24 h
  obtain ⟨l, rfl, k⟩ := tr_sls h1
  obtain ⟨x, rfl, _⟩ := tr_int Tryd.underlying3 h2
  obtain ⟨y, rfl, _⟩ := tr_int Tryd.underlying3 h3
  exact ⟨⟨l, x, y⟩, rfl, k⟩
theorem tr_chn {n : Nat} {ys : List D} (h : TyR Tryd.prog n 35 ys) : ∃ c : Chn, ys = c.d ∧ True := by
  obtain ⟨m, a, b, c, rfl, h1, h2, h3⟩ := tr_struct3 Tryd.underlying35 h
  obtain ⟨x, rfl, _⟩ := tr_str Tryd.underlying9 h1
  obtain ⟨y, rfl, _⟩ := tr_str Tryd.underlying9 h2
  obtain ⟨l, rfl, _⟩ := tr_names h3
  exact ⟨⟨x, y, l⟩, rfl, trivial⟩
theorem tr_bools {n : Nat} {ys : List D} (h : TyR Tryd.prog n 43 ys) : ∃ l : List Bool, ys = [.sl 1 (l.map bD)] ∧ True := by
  obtain ⟨l, rfl, _⟩ := tr_sl (f := bD) (ok := fun _ => True) Tryd.underlying43 (fun n ys hy => by obtain ⟨s, rfl⟩ := tr_bool Tryd.underlying4 hy; exact ⟨s, rfl, trivial⟩) h
  exact ⟨l, by rw [cel4], trivial⟩
end Go.Proofs.Dr
