import Derived.Test.YtfoncpamepepmaaVxDraw
set_option linter.unusedSimpArgs false
set_option linter.unusedVariables false
namespace Go.Vx

section
variable {P : Program} {ops : Array Oper} {Q : Exit → Act → World → Prop} {c0 : Cx} {base : Nat} {S0 : St} {sl : List (AStm × List Nat)} {tr : Tr}

theorem stAt_succ {k : Nat} {x : AStm × List Nat} {p : V × List (Nat × RowS)} (hx : sl[k]? = some x) (hp : tr[k]? = some p) : stAt S0 sl tr (k + 1) = (stAt S0 sl tr k).after x.1 p.1 p.2 := by
  simp [stAt, hx, hp]

theorem stAt_len (k : Nat) : (stAt S0 sl tr k).fr.length = S0.fr.length ∧ (stAt S0 sl tr k).rows.length = S0.rows.length := by
  induction k with
  | zero => exact ⟨rfl, rfl⟩
  | succ k ih =>
    unfold stAt
    split
    · simp [St.after, putV_length, setRows_length, ih]
    · exact ih

theorem stAt_fr {t m : Nat} : ∀ (d : Nat), (∀ j, m ≤ j → j < m + d → ∀ x, sl[j]? = some x → x.1.dst ≠ some t) → nth (stAt S0 sl tr (m + d)).fr t = nth (stAt S0 sl tr m).fr t
  | 0, _ => rfl
  | d + 1, h => by
    have ih := stAt_fr d fun j h1 h2 => h j h1 (by omega)
    rw [← ih]
    show nth (stAt S0 sl tr (m + d + 1)).fr t = _
    have hq := fun x hx => h (m + d) (by omega) (by omega) x hx
    clear ih h
    generalize m + d = q at *
    simp only [stAt]
    split
    · rename_i x p hx hp
      simp only [St.after, putV_nth]
      rw [if_neg (fun hh => hq x hx hh.1)]
    · rfl

theorem stAt_rows {g m : Nat} : ∀ (d : Nat), (∀ j, m ≤ j → j < m + d → ∀ p, tr[j]? = some p → g ∉ p.2.map (·.1)) → (stAt S0 sl tr (m + d)).rows[g]? = (stAt S0 sl tr m).rows[g]?
  | 0, _ => rfl
  | d + 1, h => by
    have ih := stAt_rows d fun j h1 h2 => h j h1 (by omega)
    rw [← ih]
    show (stAt S0 sl tr (m + d + 1)).rows[g]? = _
    have hq := fun p hp => h (m + d) (by omega) (by omega) p hp
    clear ih h
    generalize m + d = q at *
    simp only [stAt]
    split
    · rename_i x p hx hp
      simp only [St.after]
      exact setRows_other _ _ _ (hq p hp)
    · rfl

theorem any_sound {pres : List (List Nat)} {sts : List AStm} {K : St → Prop} {a : Act} {w : World} (hc : compStms P ops ops.toList 0 = some sts) (hsl : sl = sts.zip pres) (hpl : pres.length = sts.length) (hpre : preOk ops.toList pres = true)
    (hslots : slotsOk sl = true) (hdown : edgesDown ops.toList = true) (hrun : runD P base sl [] K S0) (hs : Sat c0 S0 a w) (hk : ∀ S' a' w', K S' → Sat c0 S' a' w' → Q .normal a' w') :
    wpAny P .any ops Q ops.size (Array.replicate ops.size false) a w := by
  obtain ⟨tr, A, htr, hA, hK, hstep⟩ := runD_trace sl [] K S0 hrun
  obtain ⟨hlen, hget⟩ := compStms_get _ _ _ hc
  have hn : sl.length = ops.size := by rw [hsl, List.length_zip, hlen, hpl, hlen]; simp
  have hat : ∀ (i : Nat) (o : Oper), ops[i]? = some o → ∃ (s : AStm) (pre : List Nat) (n' : Nat), sl[i]? = some (s, pre) ∧ pres[i]? = some pre ∧ compStm P ops o n' = some s := by
    intro i o ho
    obtain ⟨s, n', h1, h2⟩ := hget i o (by simpa using ho)
    have hi : i < pres.length := by rw [hpl]; exact (List.getElem?_eq_some_iff.1 h1).1
    refine ⟨s, pres[i], n', ?_, List.getElem?_eq_getElem hi, h2⟩
    rw [hsl, List.getElem?_zip_eq_some]
    exact ⟨h1, List.getElem?_eq_getElem hi⟩
  have hpz : ∀ (j : Nat) (x : AStm × List Nat), sl[j]? = some x → pres[j]? = some x.2 := by
    intro j x hx
    rw [hsl, List.getElem?_zip_eq_some] at hx
    exact hx.2
  have hWF : ∀ (i : Nat) (x : AStm × List Nat) (p : V × List (Nat × RowS)), sl[i]? = some x → tr[i]? = some p → StepOK P base x.1 (stAt S0 sl tr i) p.1 p.2 ∧ A[i]? = some (x.1.foot base (stAt S0 sl tr i).fr, p.2.map (·.1)) ∧ (∀ g ∈ p.2.map (·.1), g ∈ x.1.foot base (stAt S0 sl tr i).fr) ∧
      ∀ (j : Nat) (q : List Nat × List Nat), j < i → A[j]? = some q → j ∉ x.2 → (∀ g ∈ q.2, g ∉ x.1.foot base (stAt S0 sl tr i).fr) ∧ ∀ g ∈ p.2.map (·.1), g ∉ q.1 := by
    intro i x p hx hp
    obtain ⟨p', e1, e2, e3, e4, e5⟩ := hstep i x hx
    rw [hp] at e1; injection e1 with e1; subst e1
    exact ⟨e2, e3, e4, fun j q hj hq hjp => e5 j q (by simpa using hj) (by simpa using hq) hjp⟩
  have key : ∀ (fuel : Nat) (L : Array Bool) (a : Act) (w : World), L.size = ops.size → unl ops.size L = fuel →
      (∀ (j : Nat) (x : AStm × List Nat), sl[j]? = some x → L.getD j false = true → ∀ i ∈ x.2, L.getD i false = true) →
      (∃ ST : St, Sat c0 ST a w ∧ ST.fr.length = S0.fr.length ∧ ST.rows.length = S0.rows.length ∧
        (∀ (t k : Nat), k ≤ ops.size → (∀ (j : Nat) (x : AStm × List Nat), sl[j]? = some x → x.1.dst = some t → (j < k ↔ L.getD j false = true)) → nth ST.fr t = nth (stAt S0 sl tr k).fr t) ∧
        (∀ (g k : Nat), k ≤ ops.size → (∀ (j : Nat) (p : V × List (Nat × RowS)), tr[j]? = some p → g ∈ p.2.map (·.1) → (j < k ↔ L.getD j false = true)) → ST.rows[g]? = (stAt S0 sl tr k).rows[g]?)) →
      wpAny P .any ops Q fuel L a w := by
    intro fuel
    induction fuel with
    | zero =>
      intro L a w hL hu hcl ⟨ST, hsat, hfl, hrl, hF, hR⟩
      have hall : ∀ j, j < ops.size → L.getD j true = true := by
        intro j hj
        have h0 : ∀ b ∈ List.range ops.size, ¬ ((!L.getD b true) = true) := by
          have := List.countP_eq_zero.1 hu
          exact this
        have := h0 j (List.mem_range.2 hj)
        simpa using this
      have hall' : ∀ j, j < ops.size → L.getD j false = true := by
        intro j hj
        have := hall j hj
        rw [Array.getD_eq_getD_getElem?, Array.getElem?_eq_getElem (by omega)] at this ⊢
        simpa using this
      have hrd : Region.ready .any ops L = [] := by
        unfold Region.ready
        rw [List.filter_eq_nil_iff]
        intro i hi
        have := hall i (List.mem_range.1 hi)
        simp [this]
      refine ⟨hrd, hk ST a w ?_ hsat⟩
      have h1 : ST = stAt S0 sl tr ops.size := by
        have hl := stAt_len (S0 := S0) (sl := sl) (tr := tr) ops.size
        have hfr : ST.fr = (stAt S0 sl tr ops.size).fr := fr_ext (by omega) fun t => hF t ops.size (Nat.le_refl _) fun j x hx _ => by
          have hj : j < ops.size := by rw [← hn]; exact (List.getElem?_eq_some_iff.1 hx).1
          simp [hj, hall' j hj]
        have hrr : ST.rows = (stAt S0 sl tr ops.size).rows := List.ext_getElem? fun g => hR g ops.size (Nat.le_refl _) fun j p hp _ => by
          have hj : j < ops.size := by rw [← hn, ← htr]; exact (List.getElem?_eq_some_iff.1 hp).1
          simp [hj, hall' j hj]
        cases ST
        simp only at hfr hrr
        rw [hfr, hrr]
      rw [h1, ← hn]
      exact hK
    | succ fuel ih =>
      intro L a w hL hu hcl ⟨ST, hsat, hfl, hrl, hF, hR⟩
      refine ⟨fun hrd => ?_, fun i hi => ?_⟩
      · -- something is ready
        exfalso
        have hex : ∃ j, j < ops.size ∧ L.getD j true = false := by
          have hpos : 0 < unl ops.size L := by omega
          obtain ⟨j, hj, hj2⟩ := List.countP_pos_iff.1 hpos
          exact ⟨j, List.mem_range.1 hj, by simpa using hj2⟩
        -- the least
        have hleast : ∃ j, (j < ops.size ∧ L.getD j true = false) ∧ ∀ m, m < j → ¬ (m < ops.size ∧ L.getD m true = false) := by
          obtain ⟨j, hj⟩ := hex
          induction j using Nat.strongRecOn with
          | _ j ihj =>
            by_cases hm : ∃ m, m < j ∧ (m < ops.size ∧ L.getD m true = false)
            · obtain ⟨m, hlt, hm⟩ := hm
              exact ihj m hlt hm
            · exact ⟨j, hj, fun m hm1 hm2 => hm ⟨m, hm1, hm2⟩⟩
        obtain ⟨j, ⟨hj1, hj2⟩, hj3⟩ := hleast
        have hmem : j ∈ Region.ready .any ops L := by
          unfold Region.ready
          refine List.mem_filter.2 ⟨List.mem_range.2 hj1, ?_⟩
          have ho : ops[j]? = some ops[j] := Array.getElem?_eq_getElem hj1
          simp only [hj2, ho, Option.map_some, Option.getD_some, Bool.not_false, Bool.true_and]
          rw [Array.all_eq_true_iff_forall_mem]
          intro e he
          by_cases hb : Region.binds .any e = true
          · have hlt := edges_spec hdown (j := j) (o := ops[j]) (by simp) (by simpa using he) hb
            have := hj3 e.on hlt
            have h2 : L.getD e.on true = true := by
              cases hh : L.getD e.on true with
              | true => rfl
              | false => exact absurd ⟨by omega, hh⟩ this
            have h3 : L.getD e.on false = true := by
              rw [Array.getD_eq_getD_getElem?, Array.getElem?_eq_getElem (by omega)] at h2 ⊢
              simpa using h2
            simp [h3]
          · simp [hb]
        rw [hrd] at hmem
        simp at hmem
      · -- one that is ready is carried out
        unfold Region.ready at hi
        obtain ⟨hin, hrdy⟩ := List.mem_filter.1 hi
        have hin := List.mem_range.1 hin
        have ho : ops[i]? = some ops[i] := Array.getElem?_eq_getElem hin
        simp only [ho, Option.map_some, Option.getD_some, Bool.and_eq_true, Bool.not_eq_true'] at hrdy
        obtain ⟨hiL, hedges⟩ := hrdy
        have hiT : L.getD i false = false := by
          rw [Array.getD_eq_getD_getElem?, Array.getElem?_eq_getElem (by omega)] at hiL ⊢
          simpa using hiL
        obtain ⟨s, pre, n', hx, hpi, hcs⟩ := hat i _ ho
        have hti : i < tr.length := by rw [htr, hn]; exact hin
        have hp : tr[i]? = some tr[i] := List.getElem?_eq_getElem hti
        generalize tr[i] = p at hp
        obtain ⟨hst, hAi, hsub, hcomp⟩ := hWF i _ p hx hp
        have hpreT : ∀ j ∈ pre, L.getD j false = true := by
          intro j hj
          obtain ⟨e, he, hb, hej⟩ := preOk_spec hpre (j := i) (o := ops[i]) (by simp) (by rw [hpi]; simpa using hj)
          have heT : L.getD e.on false = true := by
            have := (Array.all_eq_true_iff_forall_mem.1 hedges) e (by simpa using he)
            simpa [hb] using this
          rcases hej with rfl | hej
          · exact heT
          · have hlt := edges_spec hdown (j := i) (o := ops[i]) (by simp) he hb
            have heo : e.on < sl.length := by omega
            have hse : sl[e.on]? = some sl[e.on] := List.getElem?_eq_getElem heo
            have := hpz _ _ hse
            rw [this] at hej
            exact hcl e.on _ hse heT j (by simpa using hej)
        -- who stands behind i is not yet carried out, or free of it
        have hlater : ∀ (j : Nat) (x : AStm × List Nat), sl[j]? = some x → L.getD j false = true → i ∉ x.2 := by
          intro j x hxj hT hm
          have := hcl j x hxj hT i hm
          rw [hiT] at this; cases this
        have hreads : ∀ t ∈ s.reads, nth ST.fr t = nth (stAt S0 sl tr i).fr t := by
          intro t ht
          refine hF t i (by omega) fun j x hxj hd => ⟨fun hj => ?_, fun hT => ?_⟩
          · by_cases hm : j ∈ pre
            · exact hpreT j hm
            · exact absurd ht ((slots_spec hslots hxj hx hj hm).1 t hd).1
          · rcases Nat.lt_trichotomy j i with h | h | h
            · exact h
            · subst h; rw [hiT] at hT; cases hT
            · exact absurd ht ((slots_spec hslots hx hxj h (hlater j x hxj hT)).2 t hd)
        have hAj : ∀ (j : Nat) (p' : V × List (Nat × RowS)), tr[j]? = some p' → ∃ x, sl[j]? = some x ∧ A[j]? = some (x.1.foot base (stAt S0 sl tr j).fr, p'.2.map (·.1)) := by
          intro j p' hpj
          have hj : j < sl.length := by rw [← htr]; exact (List.getElem?_eq_some_iff.1 hpj).1
          have hxj : sl[j]? = some sl[j] := List.getElem?_eq_getElem hj
          exact ⟨_, hxj, (hWF j _ p' hxj hpj).2.1⟩
        have hfoot : ∀ g ∈ s.foot base (stAt S0 sl tr i).fr, ST.rows[g]? = (stAt S0 sl tr i).rows[g]? := by
          intro g hg
          refine hR g i (by omega) fun j p' hpj hgp => ⟨fun hj => ?_, fun hT => ?_⟩
          · by_cases hm : j ∈ pre
            · exact hpreT j hm
            · obtain ⟨x, hxj, hAx⟩ := hAj j p' hpj
              exact absurd hg ((hcomp j _ hj hAx hm).1 g hgp)
          · rcases Nat.lt_trichotomy j i with h | h | h
            · exact h
            · subst h; rw [hiT] at hT; cases hT
            · obtain ⟨x, hxj, hAx⟩ := hAj j p' hpj
              exact absurd hg (((hWF j x p' hxj hpj).2.2.2 i _ h hAi (hlater j x hxj hT)).2 g hgp)
        have hst' : StepOK P base s ST p.1 p.2 := step_loc hreads hfoot hst
        have hsz : ∀ (j : Nat), (L.setIfInBounds i true).getD j false = true ↔ (L.getD j false = true ∨ j = i) := by
          intro j
          rw [Array.getD_eq_getD_getElem?, Array.getElem?_setIfInBounds]
          by_cases hji : i = j
          · subst hji; simp [hL, hin]
          · rw [if_neg hji, ← Array.getD_eq_getD_getElem?]
            exact ⟨.inl, fun h => h.resolve_right (Ne.symm hji)⟩
        have hlS := stAt_len (S0 := S0) (sl := sl) (tr := tr) i
        have hsucc := stAt_succ (S0 := S0) hx hp
        have hgo : ∀ a' w', Sat c0 (ST.after s p.1 p.2) a' w' → wpAny P .any ops Q fuel (L.setIfInBounds i true) a' w' := by
          intro a' w' hsat'
          refine ih (L.setIfInBounds i true) a' w' (by simpa using hL) ?_ ?_ ⟨ST.after s p.1 p.2, hsat', by simp [St.after, putV_length, hfl], by simp [St.after, setRows_length, hrl], ?_, ?_⟩
          · have := unl_set hin hL hiL
            omega
          · intro j x hxj hT m hm
            rw [hsz] at hT ⊢
            rcases hT with hT | rfl
            · exact .inl (hcl j x hxj hT m hm)
            · rw [hx] at hxj; injection hxj with hxj; subst hxj
              exact .inl (hpreT m hm)
          · intro t k hkn H
            simp only [St.after, putV_nth]
            by_cases hd : s.dst = some t
            · have hik : i < k := (H i _ hx hd).2 ((hsz i).2 (.inr rfl))
              have hno : ∀ j, i + 1 ≤ j → j < i + 1 + (k - (i + 1)) → ∀ (x : AStm × List Nat), sl[j]? = some x → x.1.dst ≠ some t := by
                intro j h1 h2 x hxj hdx
                have hT := (H j x hxj hdx).1 (by omega)
                rw [hsz] at hT
                have hT := hT.resolve_right (by omega)
                exact absurd hdx ((slots_spec hslots hx hxj (by omega) (hlater j x hxj hT)).1 t hd).2
              have h3 := stAt_fr (S0 := S0) (tr := tr) (m := i + 1) (k - (i + 1)) hno
              rw [show i + 1 + (k - (i + 1)) = k by omega, hsucc] at h3
              rw [h3]
              simp only [St.after, putV_nth, hd, true_and, hfl, hlS.1]
              by_cases hlt : t < S0.fr.length
              · simp [hlt]
              · simp only [hlt, if_false]
                rw [nth_none _ _ (by omega), nth_none _ _ (by omega)]
            · rw [if_neg (fun h => hd h.1)]
              refine hF t k hkn fun j x hxj hdx => ?_
              have hji : j ≠ i := fun e => by
                subst e; rw [hx] at hxj; injection hxj with hxj; subst hxj; exact hd hdx
              rw [H j x hxj hdx, hsz]
              exact ⟨fun h => h.resolve_right hji, .inl⟩
          · intro g k hkn H
            simp only [St.after]
            by_cases hg : g ∈ p.2.map (·.1)
            · have hik : i < k := (H i _ hp hg).2 ((hsz i).2 (.inr rfl))
              have hno : ∀ j, i + 1 ≤ j → j < i + 1 + (k - (i + 1)) → ∀ (p' : V × List (Nat × RowS)), tr[j]? = some p' → g ∉ p'.2.map (·.1) := by
                intro j h1 h2 p' hpj hgp
                have hT := (H j p' hpj hgp).1 (by omega)
                rw [hsz] at hT
                have hT := hT.resolve_right (by omega)
                obtain ⟨x, hxj, hAx⟩ := hAj j p' hpj
                exact ((hWF j x p' hxj hpj).2.2.2 i _ (by omega) hAi (hlater j x hxj hT)).2 g hgp (hsub g hg)
              have h3 := stAt_rows (S0 := S0) (sl := sl) (m := i + 1) (k - (i + 1)) hno
              rw [show i + 1 + (k - (i + 1)) = k by omega, hsucc] at h3
              rw [h3]
              simp only [St.after]
              exact setRows_same _ _ _ g (by omega) hg
            · rw [setRows_other _ _ _ hg]
              refine hR g k hkn fun j p' hpj hgp => ?_
              have hji : j ≠ i := fun e => by
                subst e; rw [hp] at hpj; injection hpj with hpj; subst hpj; exact hg hgp
              rw [H j p' hpj hgp, hsz]
              exact ⟨fun h => h.resolve_right hji, .inl⟩
        have := stm_sound (Q := Q) (K' := wpAny P .any ops Q fuel (L.setIfInBounds i true)) hcs hst' hsat hgo
        unfold wpOp
        rw [ho]
        simp only
        split
        · rename_i hw; rw [if_pos hw] at this; exact .inl this
        · rename_i hw; rw [if_neg hw] at this; exact this
  refine key ops.size (Array.replicate ops.size false) a w (by simp) ?_ ?_ ⟨S0, hs, rfl, rfl, ?_, ?_⟩
  · unfold unl
    rw [List.countP_eq_length.2]
    · simp
    · intro i hi
      have := List.mem_range.1 hi
      simp [Array.getD_eq_getD_getElem?, this]
  · intro j x hx hT
    exfalso
    rw [Array.getD_eq_getD_getElem?, Array.getElem?_replicate] at hT
    split at hT <;> simp at hT
  · intro t k hkn H
    have := stAt_fr (S0 := S0) (sl := sl) (tr := tr) (m := 0) (t := t) k (fun j _ hj x hx hd => by
      have := (H j x hx hd).1 (by omega)
      rw [Array.getD_eq_getD_getElem?, Array.getElem?_replicate] at this
      split at this <;> simp at this)
    rw [Nat.zero_add] at this
    rw [this]; rfl
  · intro g k hkn H
    have := stAt_rows (S0 := S0) (sl := sl) (tr := tr) (m := 0) (g := g) k (fun j _ hj p hp hg => by
      have := (H j p hp hg).1 (by omega)
      rw [Array.getD_eq_getD_getElem?, Array.getElem?_replicate] at this
      split at this <;> simp at this)
    rw [Nat.zero_add] at this
    rw [this]; rfl

end
end Go.Vx
