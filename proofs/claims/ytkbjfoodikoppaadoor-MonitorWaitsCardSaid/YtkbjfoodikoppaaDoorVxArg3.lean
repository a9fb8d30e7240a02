import Derived.Test.YtkbjfoodikoppaaDoorVxArg2
import Derived.LaidMore
import Derived.MakeChecks
import Derived.FnData
import Derived.Deep.Slices
set_option linter.unusedSectionVars false
set_option linter.unusedSimpArgs false
set_option linter.unusedVariables false
namespace Go.Vx
open Go.ChangeShapes Go.WideShapes Go.ChangeAt Go.RowKit Go.WideElems Go.Deep

theorem addr_add {a : Addr} (h : a.spot = none) (i : Nat) : a.add i = ⟨a.block, a.off + i, none⟩ := by
  unfold Addr.add
  split
  · rename_i h; subst h; cases a; simp_all
  · rfl

/-- What the listed variable holds, as the frames want it. -/
theorem gw_of_laid {P : Program} {W : World} {nm : String} {t s : TypeId} (hl : laidMetH P [(nm, .slice (kws.map fun b => .lit (.string b)) [])] W) (hg : P.globalNamed nm = some 0)
    (ht : (P.globals[0]?).map (·.type) = some t) (hu : P.underlying t = some (.slice s)) (hs : P.underlying s = some .string) (hc : P.cellsOf s = 1) : GW (fun b => b < W.heap.size) W := by
  rw [MakeChecks.laidMetH_plain _ _ _ rfl] at hl
  obtain ⟨ps, ⟨g, t', cs, fuel, p, q, hg', ht', hv, hd, _, _⟩, _, _⟩ := hl
  obtain rfl := Option.some.inj (hg.symm.trans hg')
  obtain rfl := Option.some.inj (ht.symm.trans ht')
  rcases open_slice1 hu hc hd with ⟨_, hx⟩ | ⟨a, len, cap, m, n, V, Dd, Pl, hcs, _, hle, _, hm, hx, hel⟩
  · simp at hx
  have hcell : W.cell? ⟨0, 0, none⟩ = some (.slice (some a) len cap) := by
    have := World.var?_cell hg hv 0
    rw [this]
    have : cs = #[.slice (some a) len cap] := by
      obtain ⟨l⟩ := cs
      simp at hcs; subst hcs; rfl
    rw [this]; rfl
  simp only [Prod.mk.injEq, DataW.slice.injEq] at hx
  have hD := hx.1.1
  have hlen : len = kws.length := by have := congrArg List.length hD; simpa using this.symm
  have hml : len ≤ m := by rw [hm]; split <;> omega
  have key : ∀ (i : Nat) (b : List UInt8), kws[i]? = some b → W.cell? (a.add i) = some (.string ⟨b.toArray⟩) := fun i b hb => by
    have hi : i < len := by rw [hlen]; exact (List.getElem?_eq_some_iff.1 hb).1
    obtain ⟨h1, h2⟩ := hel i (by omega)
    obtain ⟨x, hx1, hx2, _⟩ := DataW.trod_string hs h2
    simp at hx1
    rw [h1, hx1]
    have h3 := congrArg (fun l => l[i]?) hD
    simp only [List.getElem?_map, List.getElem?_range hi, hb, Option.map_some, Option.some.injEq] at h3
    have h4 := (Prod.mk.inj hx2).1
    rw [← h3] at h4
    injection h4 with h4; injection h4 with h4
    rw [h4]
  have h0 := key 0 _ rfl
  obtain ⟨hb, hsp⟩ := cell_lt_spot h0
  have hb' : a.block < W.heap.size ∧ a.spot = none := by
    unfold Addr.add at hb hsp
    split at hb
    · rename_i hh; simp_all
    · simp_all
  have hadd := addr_add hb'.2
  have ha : a = ⟨a.block, a.off, none⟩ := by cases a; simp_all
  have hel2 : ∀ (i : Nat) (e : List D) (j : Nat) (v : D), (kws.map fun s => [D.str s])[i]? = some e → e[j]? = some v → ∃ b, kws[i]? = some b ∧ j = 0 ∧ v = .str b := fun i e j v h1 h2 => by
    rw [List.getElem?_map] at h1
    obtain ⟨b, h3, rfl⟩ := Option.map_eq_some_iff.1 h1
    cases j with
    | zero => simp at h2; exact ⟨b, h3, rfl, h2.symm⟩
    | succ j => simp at h2
  refine RepD.ptr [kwD] 0 0 (fun _ => .slice (some a) len cap) (cell_lt_spot hcell).1 (fun j v h => ?_) (fun j v h => ?_)
  · cases j with
    | zero => exact hcell
    | succ j => simp at h
  · cases j with
    | succ j => simp at h
    | zero =>
      simp at h; subst h
      have hh := RepD.sl (I := fun b => b < W.heap.size) (w := W) 1 (kws.map fun s => [D.str s]) a.block a.off cap (fun i _ => match kws[i]? with | some b => .string ⟨b.toArray⟩ | none => .nilIface) (by simp only [List.length_map]; omega) hb'.1
        (fun e he => by obtain ⟨b, _, rfl⟩ := List.mem_map.1 he; rfl)
        (fun i e j v h1 h2 => by
          obtain ⟨b, h3, rfl, rfl⟩ := hel2 i e j v h1 h2
          have := key i b h3
          rw [hadd] at this
          simp only [Nat.mul_one, Nat.add_zero, h3]
          exact this)
        (fun i e j v h1 h2 => by
          obtain ⟨b, h3, rfl, rfl⟩ := hel2 i e j v h1 h2
          simp only [h3]
          exact .str b)
      rw [List.length_map, ← hlen, ← ha] at hh
      exact hh
end Go.Vx
