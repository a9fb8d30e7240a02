import Derived.Test.YtfoncpamepepmaaVxSound9
import Derived.Laws.NewFold
set_option linter.unusedSimpArgs false
set_option linter.unusedVariables false
namespace Go.Vx
section
variable {P : Program} {c : Cx} {K : V → List (Nat × RowS) → Prop}

theorem res_copy (ok : Ok c) {t t' ty e : TypeId} {sz : Nat} {d s : Opd} {ev : Opd → V} {hf : Nat} {ud us : Value} (ht : P.underlying t = some (.slice e)) (hs : SzOf P e sz)
    (hrd : Rep c ud (ev d)) (hrs : Rep c us (ev s)) (h : opW (.copy sz d s) ev c.rows hf K) : Res c ((Builtin.copy_ #[t, t'] ty #[ud, us]).run P c.w) K := by
  simp only [opW] at h
  obtain ⟨xs, fl, h, hsrc⟩ := src_of (P := P) ok hrs h
  have hrun : ∀ (base : Option Addr) (len cap : Nat),
      (Builtin.copy_ #[t, t'] ty #[.slice base len cap, us]).run P c.w =
        ((match base with | some a => storeCells a (fl.take (min xs.length len * sz)) | none => pure ()).run P c.w).andThen fun _ w' => .ok (.int .i64 (min xs.length len : Nat)) w' := by
    intro base len cap
    have hf := hsrc.2.2.2 c.w (fun _ _ _ => rfl) (min xs.length len) (Nat.min_le_left _ _)
    have hf' : (Builtin.firstCells sz (xs.length.min len) us).run P c.w = .ok (fl.take (min xs.length len * sz)).toArray c.w := hf
    cases base <;> simp [Builtin.copy_, run_underlying ht, hsrc.2.2.1, run_sizeOf' hs, hf', goInt]
    all_goals rfl
  split at h
  · rename_i e1; rw [e1] at hrd
    have := rep_nils hrd; subst this
    refine Res.same ok h ?_ (mk_int _ _)
    rw [hrun]; simp
  · rename_i s' g n off len e1; rw [e1] at hrd
    obtain ⟨rfl, hlive, hk⟩ := h
    have hflen := hsrc.1
    rcases rep_osl hrd hlive with ⟨rfl, rfl, rfl, rfl, hρ⟩ | ⟨cap, b, o, arr, ty', fz, rfl, hρ, hb, ho, hcap, hlc, hlen⟩
    · obtain ⟨es, hrow, hn⟩ := hlive
      have hes : es = [] := List.eq_nil_of_length_eq_zero hn
      subst hes
      refine ⟨_, _, .int .i64 0, c, hk _ hrow, ?_, ok, .refl c, ?_, ?_⟩
      · rw [hrun]; simp
      · simp [setRows_one, set_same hrow]
      · simpa using mk_int .i64 0
    · obtain ⟨es, hrow, hn⟩ := hlive
      obtain ⟨arr', ty2, fz', hb', hfz, hc⟩ := row_cells ok hrow hρ
      rw [hb] at hb'; injection hb' with hb'; injection hb' with e1 e2 e3; subst e1 e2 e3
      have hk := hk _ hrow
      have hm : (xs.take len).length = min xs.length len := by rw [List.length_take, Nat.min_comm]
      have hcf : Cont c s' (xs.take len) (fl.take (min xs.length len * s')).toArray := by
        have := cont_take hsrc.2.1 (min xs.length len) (Nat.min_le_left _ _)
        have e : xs.take (min xs.length len) = xs.take len := by
          rcases Nat.le_total xs.length len with h | h
          · rw [Nat.min_eq_left h, List.take_of_length_le (Nat.le_refl _), List.take_of_length_le h]
          · rw [Nat.min_eq_right h]
        rw [e] at this
        simpa using this
      have hfl : (fl.take (min xs.length len * s')).length = (xs.take len).length * s' := by
        rw [List.length_take, hm, hflen]
        exact Nat.min_eq_left (Nat.mul_le_mul_right _ (Nat.min_le_left _ _))
      have hfit : off * s' + (fl.take (min xs.length len * s')).length ≤ arr.size := by
        have h1 := hc.2.1
        have h2 : (off + min xs.length len) * s' ≤ es.length * s' := Nat.mul_le_mul_right _ (by omega)
        rw [Nat.add_mul] at h2
        rw [hfl, hm]; omega
      have hsz := hc.2.1
      have hco : Cont c s' (es.take off ++ xs.take len ++ es.drop (off + min xs.length len))
          (arr.toList.take (off * s') ++ fl.take (min xs.length len * s') ++ arr.toList.drop (off * s' + (fl.take (min xs.length len * s')).length)).toArray := by
        have hA := cont_take hc off (by omega)
        have hD := cont_drop hc (off + min xs.length len) (by omega)
        have hmul : off * s' ≤ es.length * s' := Nat.mul_le_mul_right _ (by omega)
        have hAl : (arr.toList.take (off * s')).length = (es.take off).length * s' := by
          rw [List.length_take, List.length_take, Nat.min_eq_left (by rw [Array.length_toList]; omega), Nat.min_eq_left (by omega)]
        have h12 := cont_cat (rest := []) hAl hfl hA hcf
        simp only [List.append_nil] at h12
        rw [Nat.add_mul] at hD
        have hdr : off * s' + (fl.take (min xs.length len * s')).length = off * s' + min xs.length len * s' := by rw [hfl, hm]
        rw [hdr]
        -- the rest beyond the row's elements
        have hDl : ∃ D rest, arr.toList.drop (off * s' + min xs.length len * s') = D ++ rest ∧ D.length = (es.drop (off + min xs.length len)).length * s' ∧ Cont c s' (es.drop (off + min xs.length len)) D.toArray := by
          have hdl : ((es.drop (off + min xs.length len)).length * s') ≤ (arr.toList.drop (off * s' + min xs.length len * s')).length := by
            rw [List.length_drop, List.length_drop, Array.length_toList (xs := arr), Nat.sub_mul, Nat.add_mul]; omega
          refine ⟨(arr.toList.drop (off * s' + min xs.length len * s')).take ((es.drop (off + min xs.length len)).length * s'), _, (List.take_append_drop _ _).symm, by rw [List.length_take, Nat.min_eq_left hdl], ?_⟩
          have := cont_take hD (es.drop (off + min xs.length len)).length (Nat.le_refl _)
          rw [List.take_length] at this
          simpa using this
        obtain ⟨D, rest, hd1, hd2, hd3⟩ := hDl
        rw [hd1, ← List.append_assoc]
        refine cont_cat (rest := rest) ?_ hd2 h12 hd3
        rw [List.length_append, List.length_append, hAl, hfl, Nat.add_mul]
      have hlen' : (es.take off ++ xs.take len ++ es.drop (off + min xs.length len)).length = es.length := by
        simp only [List.length_append, List.length_take, List.length_drop]; omega
      have hup := upd_ok ok g b s' es _ arr _ ty' fz hrow hρ hb hfz (by rw [List.size_toArray, splice_len _ _ _ (by simpa using hfit), Array.length_toList]) (by rw [hlen']; exact Nat.le_refl _) hco
      by_cases hcz : cap = 0
      · have hl0 : len = 0 := by omega
        have hsame : es.take off ++ xs.take len ++ es.drop (off + min xs.length len) = es := by rw [hl0]; simp
        refine ⟨_, _, .int .i64 (min xs.length len : Nat), c, hk, ?_, ok, .refl c, ?_, mk_int _ _⟩
        · rw [hrun, hl0]; simp [storeCells]
        · rw [setRows_one, hsame, set_same hrow]
      · have ho' := ho.resolve_right hcz
        subst ho'
        have hone := one_of_cont hfl hcf
        have hst := run_storeCells_fz (P := P) b (off * s') ty' fz (fl.take (min xs.length len * s')) 0 arr c.w hb hfz (by omega) hone
        simp only [Nat.add_zero] at hst
        refine ⟨_, _, .int .i64 (min xs.length len : Nat), _, hk, ?_, hup.1, hup.2, rfl, mk_int _ _⟩
        rw [hrun]
        simp [hst]
  · exact h.elim

theorem foldl_push (l : List UInt8) (a : Array UInt8) : l.foldl (fun r b => ByteArray.push r b) (⟨a⟩ : ByteArray) = ⟨a ++ l.toArray⟩ := by
  induction l generalizing a with
  | nil => simp
  | cons x l ih => simp only [List.foldl_cons]; show l.foldl _ (⟨a.push x⟩ : ByteArray) = _; rw [ih]; simp

theorem res_b2s (ok : Ok c) {src dst e : TypeId} {x : Opd} {ev : Opd → V} {hf : Nat} {u : Value} (hs : P.underlying src = some (.slice e)) (he : P.underlying e = some (.int .u8)) (hd : P.underlying dst = some .string)
    (hr : Rep c u (ev x)) (h : opW (.b2s x) ev c.rows hf K) : Res c ((convert src dst u).run P c.w) K := by
  simp only [opW] at h
  obtain ⟨hns, h⟩ := h
  have hx : ∀ s, ev x ≠ .d (.str s) := fun s e => by rw [e] at hns; simp [notStr] at hns
  obtain ⟨es, fl, ⟨hby, hk⟩, hsrc⟩ := src_of (P := P) ok hr h
  have hflen := hsrc.1
  have hnum : ∃ ns : List Int, fl = ns.map (Value.int .u8) ∧ es = ns.map fun n => [.d (.int .u8 n)] := by
    have hc := hsrc.2.1
    clear hk h hsrc
    induction es generalizing fl with
    | nil => exact ⟨[], by simpa using hflen, rfl⟩
    | cons e es ih =>
      obtain ⟨n, rfl⟩ := hby e (by simp)
      cases fl with
      | nil => simp at hflen
      | cons f fl =>
        obtain ⟨x, hx1, hx2⟩ := hc.2.2 0 _ 0 _ rfl rfl
        simp at hx1; subst hx1
        have := rep_int hx2; subst this
        have hc' : Cont c 1 es fl.toArray := by
          refine ⟨fun e he => hc.1 e (by simp [he]), by simp at hflen ⊢; omega, fun i e j v h1 h2 => ?_⟩
          obtain ⟨x, hx1, hx2⟩ := hc.2.2 (i + 1) e j v (by simpa using h1) h2
          refine ⟨x, ?_, hx2⟩
          have : (i + 1) * 1 + j = i * 1 + j + 1 := by omega
          rw [this] at hx1
          simpa using hx1
        obtain ⟨ns, e1, e2⟩ := ih (fun e he => hby e (by simp [he])) (fl := fl) (by simp at hflen ⊢; omega) hc'
        exact ⟨n :: ns, by simp [e1], by simp [e2]⟩
  obtain ⟨ns, hfl, hes⟩ := hnum
  have hbs : es.map byteOfV = ns.map fun n => UInt8.ofNat n.toNat := by rw [hes]; simp [byteOfV]
  rw [hbs] at hk
  have hlenn : es.length = ns.length := by rw [hes]; simp
  have hfc := hsrc.2.2.2 c.w (fun _ _ _ => rfl) es.length (Nat.le_refl _)
  have hlo := hsrc.2.2.1
  have hfull : fl.take (es.length * 1) = fl := List.take_of_length_le (by omega)
  rw [hfull] at hfc
  have hshape : ∃ a len cap, u = .slice a len cap := by
    cases hv : ev x with
    | d d =>
      rw [hv] at hr h
      cases hr with | d _ _ hr =>
      cases d with
      | nils => cases hr; exact ⟨_, _, _, rfl⟩
      | str s => exact absurd hv (hx s)
      | sl => cases hr <;> exact ⟨_, _, _, rfl⟩
      | _ => simp [elemsW] at h
    | osl a b c' d e =>
      rw [hv] at hr h
      simp only [elemsW] at h
      rcases rep_osl hr (by obtain ⟨rfl, hl, _⟩ := h; exact hl) with ⟨rfl, _⟩ | ⟨_, _, _, _, _, _, rfl, _⟩ <;> exact ⟨_, _, _, rfl⟩
    | any => rw [hv] at h; simp [elemsW] at h
    | optr => rw [hv] at h; simp [elemsW] at h
    | agg => rw [hv] at h; simp [elemsW] at h
    | tup => rw [hv] at h; simp [elemsW] at h
    | fn => rw [hv] at h; simp [elemsW] at h
  obtain ⟨a, len, cap, rfl⟩ := hshape
  simp [Builtin.lenOf] at hlo
  subst hlo
  refine Res.same ok hk (u := .string ⟨(ns.map fun n => UInt8.ofNat n.toNat).toArray⟩) ?_ (mk_str _)
  rw [run_convert_bytes_string c.w src dst e a _ cap hs he hd]
  cases a with
  | none =>
    simp [Builtin.firstCells] at hfc
    subst hfc
    have : ns = [] := by simpa using hfl.symm
    subst this
    simp [Conv.bytesToString]
    rfl
  | some a =>
    simp only [Builtin.firstCells, Nat.mul_one] at hfc
    rw [run_bytesToString c.w a _ cap ns (by rw [hfc, hfl])]
    congr 2
    have h2 : ∀ (ns : List Int) (r : ByteArray), ns.foldl (fun (r : ByteArray) n => r.push (UInt8.ofNat n.toNat)) r = (ns.map fun n => UInt8.ofNat n.toNat).foldl (fun r b => r.push b) r := by
      intro ns
      induction ns with
      | nil => intro r; rfl
      | cons n ns ih => intro r; simp only [List.foldl_cons, List.map_cons]; exact ih _
    rw [h2]
    have := foldl_push (ns.map fun n => UInt8.ofNat n.toNat) #[]
    simp only [Array.empty_append] at this
    exact this

theorem res_s2b (ok : Ok c) {src dst e : TypeId} {x : Opd} {ev : Opd → V} {hf : Nat} {u : Value} (hu : c.rows[hf]? = some .un) (hs : P.underlying src = some .string) (hd : P.underlying dst = some (.slice e)) (he : P.underlying e = some (.int .u8))
    (hr : Rep c u (ev x)) (h : opW (.s2b x) ev c.rows hf K) : Res c ((convert src dst u).run P c.w) K := by
  simp only [opW] at h
  split at h
  · rename_i s e1; rw [e1] at hr
    have := rep_str hr; subst this
    have hlt : hf < c.rows.length := (List.getElem?_eq_some_iff.1 hu).1
    have hforce : (Question.appendCap s.length 0 e).forced = false := rfl
    obtain ⟨cap, hcap, hcl⟩ : ∃ cap, cap = (Question.appendCap s.length 0 e).cut (c.w.tape c.w.drawn (.appendCap s.length 0 e)) ∧ s.length ≤ cap := ⟨_, rfl, by simp only [Question.cut]; omega⟩
    obtain ⟨arr, harr⟩ : ∃ arr : Array Value, (s.map fun b => Value.int .u8 (b.toNat : Int)).toArray ++ Array.replicate (cap - s.length) (.int .u8 0) = arr := ⟨_, rfl⟩
    have hal : arr.size = cap := by rw [← harr]; simp; omega
    have hco : Cont c 1 (s.map fun b => [.d (.int .u8 b.toNat)]) arr := by
      refine ⟨fun e he => ?_, by rw [hal]; simpa using hcl, fun i e j v h1 h2 => ?_⟩
      · obtain ⟨b, _, rfl⟩ := List.mem_map.1 he
        exact ⟨rfl, by simp [oneV]⟩
      · simp only [List.getElem?_map] at h1
        obtain ⟨b, hb, rfl⟩ := Option.map_eq_some_iff.1 h1
        cases j with
        | zero =>
          simp at h2; subst h2
          obtain ⟨hi, hbi⟩ := List.getElem?_eq_some_iff.1 hb
          refine ⟨.int .u8 b.toNat, ?_, mk_int _ _⟩
          rw [← harr, Array.getElem?_append_left (by simpa using hi)]
          simp [hb]
        | succ j => simp at h2
    have hfz : ∀ i, i < arr.size → ¬ (arr.size ≤ i ∧ i < arr.size + 1) := fun i hi => by omega
    have hrunw : ((c.w.drew.alloc (.cells arr e)).freeze ⟨c.w.heap.size, arr.size, none⟩ 1).heap = c.w.heap.push (.cells arr e (arr.size, arr.size + 1)) := by
      simp only [World.freeze, World.alloc, World.drew]
      rw [if_neg (by omega)]
      apply Array.ext_getElem?
      intro k
      rw [Array.getElem?_modify]
      by_cases hk : c.w.heap.size = k
      · subst hk; simp
      · rw [if_neg hk, Array.getElem?_push, Array.getElem?_push]
        rw [if_neg (fun e => hk e.symm), if_neg (fun e => hk e.symm)]
    have halo := alloc_ok ok hf 1 _ arr e (arr.size, arr.size + 1) (.inl hu) hfz hco ((c.w.drew.alloc (.cells arr e)).freeze ⟨c.w.heap.size, arr.size, none⟩ 1) hrunw rfl rfl rfl
    refine ⟨_, _, .slice (some ⟨c.w.heap.size, 0, none⟩) s.length cap, _, h, ?_, halo.1, halo.2, rfl, ?_⟩
    · have hmap : (⟨s.toArray⟩ : ByteArray).data.map (fun b => Value.int .u8 b.toNat) = (s.map fun b => Value.int .u8 b.toNat).toArray := by simp
      have hsh : (c.w.drew.alloc (.cells arr e)).shape? c.w.heap.size = some (e, arr.size) := by
        have : (c.w.drew.alloc (.cells arr e)).heap[c.w.heap.size]? = some (.cells arr e (0, 0)) := push_new (w := c.w) rfl
        simp only [World.shape?, this]
      simp only [convert, Sem.run_bind, run_underlying hs, run_underlying hd, run_underlying he, Result.andThen_ok, Conv.stringToBytes, size_str, run_choose_drew, hforce, if_false, Bool.false_eq_true, hmap]
      rw [← hcap, harr]
      simp only [newRow, markStringish, Sem.run_bind, run_newObj_alloc, Result.andThen_ok, Sem.run_pure, World.size_drew, run_shape, hsh, run_freeze]
    · refine .osl _ _ _ _ _ cap c.w.heap.size 0 _ arr e _ (by simp [hlt]; rfl) (by simp) (by simp) (by rw [hrunw]; simp; rfl) (.inl (by simp)) (by omega) hcl (by omega)
  · exact h.elim

end
end Go.Vx
