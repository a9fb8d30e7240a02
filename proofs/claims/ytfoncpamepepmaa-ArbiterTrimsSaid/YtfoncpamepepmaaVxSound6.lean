import Derived.Test.YtfoncpamepepmaaVxSound5
import Derived.Laws.BytesArg
set_option linter.unusedSimpArgs false
set_option linter.unusedVariables false
namespace Go.Vx
section
variable {P : Program} {c : Cx} {K : V → List (Nat × RowS) → Prop}

def BndRep (c : Cx) (ev : Opd → V) : Option Opd → Option Value → Prop
  | none, none => True
  | some x, some u => Rep c u (ev x)
  | _, _ => False

theorem bnd_of {ev : Opd → V} {o : Option Opd} {o' : Option Value} {d : Int} {K' : Int → Prop} (hb : BndRep c ev o o') (h : bndW ev o d K') :
    ∃ n, K' n ∧ ((o' = none ∧ n = d) ∨ ∃ k, o' = some (.int k n)) := by
  unfold bndW at h
  cases o with
  | none =>
    cases o' with
    | none => exact ⟨d, h, .inl ⟨rfl, rfl⟩⟩
    | some u => exact hb.elim
  | some x =>
    cases o' with
    | none => exact hb.elim
    | some u =>
      obtain ⟨k, n, rfl, h⟩ := int_of hb h
      exact ⟨n, h, .inr ⟨k, rfl⟩⟩

theorem run_bounds {w : World} {isS : Bool} {len cap : Nat} {lo hi : Option Value} {l h : Int} (hlo : (lo = none ∧ l = 0) ∨ ∃ k, lo = some (.int k l))
    (hhi : (hi = none ∧ h = len) ∨ ∃ k, hi = some (.int k h)) (h0 : 0 ≤ l) (hlh : l ≤ h) (hc : h ≤ cap) :
    (Instr.sliceBounds isS len cap lo hi none).run P w = .ok (l.toNat, h.toNat, cap) w := by
  have h2 : 0 ≤ h := by omega
  have h3 : ((h.toNat : Nat) : Int) = h := by omega
  rcases hlo with ⟨rfl, rfl⟩ | ⟨k, rfl⟩ <;> rcases hhi with ⟨rfl, rfl⟩ | ⟨k', rfl⟩
  · simp [Instr.sliceBounds]
  · simp [Instr.sliceBounds, Instr.sliceBound, asIntOf, h2, hc]
  · simp [Instr.sliceBounds, Instr.sliceBound, asIntOf, h0, hlh]
  · simp [Instr.sliceBounds, Instr.sliceBound, asIntOf, h2, hc, h0, h3, hlh]

theorem extract_str (s : List UInt8) (l h : Nat) : (⟨s.toArray⟩ : ByteArray).extract l h = ⟨((s.take h).drop l).toArray⟩ := by
  apply ByteArray.ext
  apply Array.ext'
  rw [Lib.extract_data]
  simp [List.drop_take]

theorem size_str (s : List UInt8) : (⟨s.toArray⟩ : ByteArray).size = s.length := by simp [← ByteArray.size_data]

theorem res_slice (ok : Ok c) {t e : TypeId} {sz : Nat} {x : Opd} {lo hi : Option Opd} {ev : Opd → V} {hf : Nat} {u : Value} {lo' hi' : Option Value} (ht : if sz = 0 then P.underlying t = some .string else P.underlying t = some (.slice e)) (hs : sz ≠ 0 → SzOf P e sz)
    (hr : Rep c u (ev x)) (hl : BndRep c ev lo lo') (hh : BndRep c ev hi hi') (h : opW (.slice sz x lo hi) ev c.rows hf K) :
    Res c ((Instr.sliceAt t u lo' hi' none).run P c.w) K := by
  simp only [opW] at h
  have fin : ∀ (a : Option Addr) (len cap : Nat) (l r : Int), sz ≠ 0 → ((lo' = none ∧ l = 0) ∨ ∃ k, lo' = some (.int k l)) → ((hi' = none ∧ r = len) ∨ ∃ k, hi' = some (.int k r)) → 0 ≤ l → l ≤ r → r ≤ cap →
      (Instr.sliceAt t (.slice a len cap) lo' hi' none).run P c.w = .ok (.slice (if cap = l.toNat then a else a.map (·.add (l.toNat * sz))) (r.toNat - l.toNat) (cap - l.toNat)) c.w := by
    intro a len cap l r hz0 el er h0 h1 h2
    rw [if_neg hz0] at ht
    have hs := hs hz0
    have hb := run_bounds (P := P) (w := c.w) (isS := true) (len := len) (cap := cap) el er h0 h1 h2
    simp [Instr.sliceAt, run_underlying ht, Instr.slice, hb, run_sizeOf' hs]
  split at h
  · rename_i e1; rw [e1] at hr
    have := rep_nils hr; subst this
    obtain ⟨hz0, h⟩ := h
    obtain ⟨l, h, el⟩ := bnd_of hl h
    obtain ⟨r, h, er⟩ := bnd_of hh h
    obtain ⟨rfl, rfl, hk⟩ := h
    refine Res.same ok hk ?_ (.d _ _ .nils)
    rw [fin none 0 0 0 0 hz0 el er (by omega) (by omega) (by omega)]
    simp
  · rename_i s es e1; rw [e1] at hr
    obtain ⟨hz0, rfl, h⟩ := h
    obtain ⟨l, h, el⟩ := bnd_of hl h
    obtain ⟨r, h, er⟩ := bnd_of hh h
    obtain ⟨h0, h1, h2, hk⟩ := h
    cases hr with | d _ _ hr =>
    generalize hes : es = es' at *
    cases hr with
    | slNil =>
      subst hes
      simp at h2
      have : l = 0 := by omega
      have : r = 0 := by omega
      subst l r
      refine Res.same ok hk ?_ (.d _ _ (.slNil _))
      rw [fin none 0 0 0 0 hz0 el (by simpa using er) (by omega) (by omega) (by omega)]
      simp
    | slEmp _ a cap =>
      subst hes
      simp at h2
      have : l = 0 := by omega
      have : r = 0 := by omega
      subst l r
      refine Res.same ok hk (u := .slice (if cap = 0 then some a else some (a.add (0 * s))) 0 cap) ?_ ?_
      · rw [fin (some a) 0 cap 0 0 hz0 el (by simpa using er) (by omega) (by omega) (by omega)]
        simp
      · split <;> exact .d _ _ (.slEmp _ _ _)
    | sl _ _ b off cap uu hcap hI hsz hcell hrep =>
      have hlen : ((es'.take r.toNat).drop l.toNat).length = r.toNat - l.toNat := by simp; omega
      by_cases hcl : cap = l.toNat
      · have hz : (es'.take r.toNat).drop l.toNat = [] := List.eq_nil_of_length_eq_zero (by omega)
        have hz2 : r.toNat - l.toNat = 0 := by omega
        rw [hz] at hk
        refine Res.same ok hk (u := .slice (some ⟨b, off, none⟩) 0 (cap - l.toNat)) ?_ (.d _ _ (.slEmp _ _ _))
        rw [fin _ _ _ l r hz0 el er h0 h1 (by omega), if_pos hcl, hz2]
      · refine Res.same ok hk (u := .slice (some ⟨b, off + l.toNat * s, none⟩) ((es'.take r.toNat).drop l.toNat).length (cap - l.toNat)) ?_ ?_
        · rw [fin _ _ _ l r hz0 el er h0 h1 (by omega), if_neg hcl, hlen]
          simp [add_off]
        · have hget : ∀ i e', ((es'.take r.toNat).drop l.toNat)[i]? = some e' → es'[l.toNat + i]? = some e' := fun i e' h => by
            rw [List.getElem?_drop, List.getElem?_take] at h
            split at h
            · exact h
            · cases h
          refine .d _ _ (.sl s _ b _ _ (fun i j => uu (l.toNat + i) j) (by omega) hI (fun e' he => hsz e' (List.mem_of_mem_take (List.mem_of_mem_drop he))) (fun i e' j v h3 h4 => ?_) (fun i e' j v h3 h4 => hrep _ _ _ _ (hget i e' h3) h4))
          have := hcell _ _ _ _ (hget i e' h3) h4
          rw [Nat.add_mul] at this
          rw [← this]; congr 2; omega
  · rename_i s e1; rw [e1] at hr
    obtain ⟨hz0, h⟩ := h
    rw [if_pos hz0] at ht
    have := rep_str hr; subst this
    obtain ⟨l, h, el⟩ := bnd_of hl h
    obtain ⟨r, h, eh⟩ := bnd_of hh h
    obtain ⟨h0, h1, h2, hk⟩ := h
    refine Res.same ok hk ?_ (mk_str _)
    have hb := run_bounds (P := P) (w := c.w) (isS := false) (len := s.length) (cap := s.length) el eh h0 h1 (by omega)
    simp [Instr.sliceAt, run_underlying ht, Instr.slice, size_str, hb, extract_str]
  · rename_i s hh' n off len e1; rw [e1] at hr
    obtain ⟨hz0, rfl, hlive, h⟩ := h
    obtain ⟨l, h, el⟩ := bnd_of hl h
    obtain ⟨r, h, er⟩ := bnd_of hh h
    obtain ⟨h0, h1, h2, hk⟩ := h
    rcases rep_osl hr hlive with ⟨rfl, rfl, rfl, rfl, hρ⟩ | ⟨cap, b, o, arr, ty, fz, rfl, hρ, hb, ho, hcap, hlc, hlen⟩
    · have : l = 0 := by omega
      have : r = 0 := by omega
      subst l r
      obtain ⟨es, hrow, hn⟩ := hlive
      have hes : es = [] := List.eq_nil_of_length_eq_zero hn
      subst hes
      refine Res.same ok hk ?_ (.oslVirt _ _ hrow hρ)
      rw [fin none 0 0 0 0 hz0 el (by simpa using er) (by omega) (by omega) (by omega)]
      simp
    · obtain ⟨es, hrow, hn⟩ := hlive
      refine Res.same ok hk (u := .slice (some ⟨b, if cap = l.toNat then o else o + l.toNat * s, none⟩) (r.toNat - l.toNat) (cap - l.toNat)) ?_ ?_
      · rw [fin _ _ _ l r hz0 el er h0 h1 (by omega)]
        split <;> simp [add_off]
      · refine .osl _ _ _ _ _ _ b _ es arr ty fz hrow hn hρ hb ?_ ?_ (by omega) (by omega)
        · by_cases hcl : cap = l.toNat
          · exact .inr (by omega)
          · rw [if_neg hcl]
            refine .inl ?_
            rw [ho.resolve_right (by omega), Nat.add_mul]
        · rw [show off + l.toNat + (cap - l.toNat) = off + cap by omega]; exact hcap
  · exact h.elim

theorem res_len (ok : Ok c) {t ty : TypeId} {str : Bool} {x : Opd} {ev : Opd → V} {hf : Nat} {u : Value} (ht : if str then P.underlying t = some .string else ∃ e, P.underlying t = some (.slice e))
    (hr : Rep c u (ev x)) (h : opW (.len str x) ev c.rows hf K) : Res c ((Builtin.len_ #[t] ty #[u]).run P c.w) K := by
  simp only [opW] at h
  have fin : ∀ (a : Option Addr) (n cap : Nat), str = false → (Builtin.len_ #[t] ty #[.slice a n cap]).run P c.w = .ok (.int .i64 n) c.w := by
    intro a n cap hs
    rw [hs] at ht
    obtain ⟨e, he⟩ := ht
    simp [Builtin.len_, run_underlying he, goInt]
  split at h
  · rename_i e1; rw [e1] at hr
    have := rep_nils hr; subst this
    exact Res.same ok h (fin _ _ _ rfl) (mk_int _ _)
  · rename_i s es e1; rw [e1] at hr
    cases hr with | d _ _ hr =>
    generalize hes : es = es' at *
    cases hr with
    | slNil => subst hes; exact Res.same ok h (by simpa using fin none 0 0 rfl) (mk_int _ _)
    | slEmp _ a cap => subst hes; exact Res.same ok h (by simpa using fin (some a) 0 cap rfl) (mk_int _ _)
    | sl _ _ b off cap uu hcap hI hsz hcell hrep => exact Res.same ok h (fin _ _ _ rfl) (mk_int _ _)
  · rename_i s e1; rw [e1] at hr
    have := rep_str hr; subst this
    simp only [if_true] at ht
    refine Res.same ok h ?_ (mk_int _ _)
    simp [Builtin.len_, run_underlying ht, goInt, size_str]
  · rename_i s hh n off len e1; rw [e1] at hr
    obtain ⟨hlive, hk⟩ := h
    rcases rep_osl hr hlive with ⟨rfl, rfl, rfl, rfl, _⟩ | ⟨cap, b, o, arr, ty, fz, rfl, hρ, hb, ho, hcap, hlc, hlen⟩
    · exact Res.same ok hk (fin _ _ _ rfl) (mk_int _ _)
    · exact Res.same ok hk (fin _ _ _ rfl) (mk_int _ _)
  · exact h.elim

end
end Go.Vx
