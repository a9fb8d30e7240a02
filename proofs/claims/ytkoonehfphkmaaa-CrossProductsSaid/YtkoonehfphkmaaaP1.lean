import Derived.Test.YtkoonehfphkmaaaR8
set_option linter.unusedSimpArgs false
set_option linter.unusedVariables false
namespace Go.Proofs.Cr
open Go.Vx
def hitAt (hit : List (List Int)) (p : Int) : List Int := (hit[p.toNat]?).getD []
def bsS (H : List Int) (n : Nat) : List Int := ((List.range n).filter fun b : Nat => hasS H b).map fun b : Nat => (b : Int)
def extS (n : Nat) (H : List Int) (all : List (List Int)) : List (List Int) := all.flatMap fun l => (bsS H n).map fun b => l ++ [b]
def allP (m : Md) (hit : List (List Int)) (pts : List Int) : List (List Int) := pts.foldl (fun all p => extS (nb m p) (hitAt hit p) all) [[]]
def keepS (m : Md) (i : Int) (l : List Int) : Bool := (ixo m i l).isSome && !excS m i l
def hitsS (m : Md) (i : Int) (hit : List (List Int)) : List Int := match crOf m i with
  | none => []
  | some c => if usb m i = true ∧ hit.length = m.1.length then ((allP m hit c.2.1).filter (keepS m i)).map (fun l => ((ixo m i l).getD 0 : Nat)) else []
theorem bsS_succ {H : List Int} {n : Nat} : bsS H (n + 1) = if hasS H n then bsS H n ++ [(n : Int)] else bsS H n := by
  rw [bsS, List.range_succ, List.filter_append, List.map_append]
  cases h : hasS H n <;> simp [bsS, h]
theorem bsS_len {H : List Int} {n : Nat} : (bsS H n).length ≤ n := by
  rw [bsS, List.length_map]
  exact Nat.le_trans (List.length_filter_le _ _) (by simp)
theorem extS_nil {n : Nat} {H : List Int} : extS n H [] = [] := rfl
theorem extS_snoc {n : Nat} {H : List Int} {a : List (List Int)} {l : List Int} : extS n H (a ++ [l]) = extS n H a ++ (bsS H n).map fun b => l ++ [b] := by
  simp [extS]
theorem extS_take {n : Nat} {H : List Int} {a : List (List Int)} {j : Nat} {l : List Int} (h : a[j]? = some l) : extS n H (a.take (j + 1)) = extS n H (a.take j) ++ (bsS H n).map fun b => l ++ [b] := by
  obtain ⟨h1, h2⟩ := List.getElem?_eq_some_iff.1 h
  rw [List.take_succ_eq_append_getElem h1, h2, extS_snoc]
theorem extS_len {n : Nat} {H : List Int} {a : List (List Int)} : (extS n H a).length ≤ a.length * n := by
  induction a with
  | nil => simp [extS]
  | cons x a ih =>
    have : extS n H (x :: a) = ((bsS H n).map fun b => x ++ [b]) ++ extS n H a := rfl
    have h2 := bsS_len (H := H) (n := n)
    rw [this, List.length_append, List.length_map, List.length_cons, Nat.add_mul, Nat.one_mul]
    omega
theorem allP_snoc {m : Md} {hit : List (List Int)} {pts : List Int} {j : Nat} {p : Int} (h : pts[j]? = some p) : allP m hit (pts.take (j + 1)) = extS (nb m p) (hitAt hit p) (allP m hit (pts.take j)) := by
  obtain ⟨h1, h2⟩ := List.getElem?_eq_some_iff.1 h
  rw [List.take_succ_eq_append_getElem h1, h2, allP, List.foldl_append]; rfl
theorem allP_len {m : Md} (hb : ∀ p ∈ m.1, p.2.length ≤ 40) {hit : List (List Int)} {pts : List Int} : ∀ j, j ≤ pts.length → (allP m hit (pts.take j)).length ≤ 40 ^ j ∧ ∀ l ∈ allP m hit (pts.take j), l.length = j := by
  intro j
  induction j with
  | zero => intro _; rw [List.take_zero]; exact ⟨by simp [allP], fun l hl => by simp [allP] at hl; simp [hl]⟩
  | succ j ih =>
    intro hj
    obtain ⟨p, hp⟩ := get_ex (l := pts) (i := j) (by omega)
    obtain ⟨h1, h2⟩ := ih (by omega)
    rw [allP_snoc hp]
    refine ⟨?_, fun l hl => ?_⟩
    · have := extS_len (n := nb m p) (H := hitAt hit p) (a := allP m hit (pts.take j))
      rw [Nat.pow_succ]
      exact Nat.le_trans this (Nat.mul_le_mul h1 (nb_le hb p))
    · rw [extS, List.mem_flatMap] at hl
      obtain ⟨x, hx, hl⟩ := hl
      obtain ⟨b, _, rfl⟩ := List.mem_map.1 hl
      simp [h2 x hx]
theorem hitAt_at {hit : List (List Int)} {p : Nat} {x : List Int} (h : hit[p]? = some x) : hitAt hit p = x := by rw [hitAt, Int.toNat_natCast, h]; rfl
end Go.Proofs.Cr
