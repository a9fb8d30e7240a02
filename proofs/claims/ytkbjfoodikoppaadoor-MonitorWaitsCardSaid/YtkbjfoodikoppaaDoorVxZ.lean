import Derived.Test.YtkbjfoodikoppaaDoorVxBv
import Derived.Test.YtkbjfoodikoppaaDoorVxArg2
set_option linter.unusedSectionVars false
set_option linter.unusedSimpArgs false
set_option linter.unusedVariables false
/- the rules and equations of a run, in one name -/
namespace Go.Vx
theorem vz0 :
    type_of% (And.intro @List.length_map.{0,0} (And.intro @Int.cast_ofNat_Int (And.intro @Int.natCast_zero (And.intro @Int.toNat_natCast (And.intro @Opd.ev.eq_1 (And.intro @Opd.ev.eq_2 (And.intro @evs.eq_1 (And.intro @evs.eq_2 (And.intro @pickA.eq_1 (And.intro @pickA.eq_2 (And.intro @pickA.eq_3 (And.intro @eqBA.eq_1 (And.intro @eqBA.eq_2 (And.intro @eqSA.eq_1 (And.intro @eqSA.eq_2 (And.intro @isNilA.eq_1 (And.intro @isNilA.eq_2 (And.intro @isNilA.eq_3 (And.intro @isNilA.eq_4 (And.intro @eqC.eq_1 (And.intro @eqC.eq_2 (And.intro @eqC.eq_3 (And.intro @eqC.eq_4 (And.intro @eqC.eq_5 (And.intro @eqR.eq_1 (And.intro @eqR.eq_2 (And.intro @convA.eq_1 (And.intro @convA.eq_2 (And.intro @sameA.eq_1 (@sameA.eq_2)))))))))))))))))))))))))))))) :=
  And.intro @List.length_map.{0,0} (And.intro @Int.cast_ofNat_Int (And.intro @Int.natCast_zero (And.intro @Int.toNat_natCast (And.intro @Opd.ev.eq_1 (And.intro @Opd.ev.eq_2 (And.intro @evs.eq_1 (And.intro @evs.eq_2 (And.intro @pickA.eq_1 (And.intro @pickA.eq_2 (And.intro @pickA.eq_3 (And.intro @eqBA.eq_1 (And.intro @eqBA.eq_2 (And.intro @eqSA.eq_1 (And.intro @eqSA.eq_2 (And.intro @isNilA.eq_1 (And.intro @isNilA.eq_2 (And.intro @isNilA.eq_3 (And.intro @isNilA.eq_4 (And.intro @eqC.eq_1 (And.intro @eqC.eq_2 (And.intro @eqC.eq_3 (And.intro @eqC.eq_4 (And.intro @eqC.eq_5 (And.intro @eqR.eq_1 (And.intro @eqR.eq_2 (And.intro @convA.eq_1 (And.intro @convA.eq_2 (And.intro @sameA.eq_1 (@sameA.eq_2)))))))))))))))))))))))))))))
theorem vz1 :
    type_of% (And.intro @nilckA.eq_1 (And.intro @nilckA.eq_2 (And.intro @nilckA.eq_3 (And.intro @nilckA.eq_4 (And.intro @liveP.eq_1 (And.intro @liveP.eq_2 (And.intro @liveP.eq_3 (And.intro @liveP.eq_4 (And.intro @liveA.eq_1 (And.intro @liveA.eq_2 (And.intro @liveA.eq_3 (And.intro @liveA.eq_4 (And.intro @s2bA.eq_1 (And.intro @s2bA.eq_2 (And.intro @b2sA.eq_1 (And.intro @b2sK.eq_1 (And.intro @boxA.eq_1 (And.intro @boxK.eq_1 (And.intro @buildA.eq_1 (And.intro @buildA.eq_2 (And.intro @buildK.eq_1 (And.intro @aggK.eq_1 (And.intro @bslA.eq_1 (And.intro @bslA.eq_2 (And.intro @bslK.eq_1 (And.intro @rowK.eq_1 (And.intro @ldK.eq_1 (And.intro @ldDK.eq_1 (And.intro @getA.eq_1 (@getA.eq_2)))))))))))))))))))))))))))))) :=
  And.intro @nilckA.eq_1 (And.intro @nilckA.eq_2 (And.intro @nilckA.eq_3 (And.intro @nilckA.eq_4 (And.intro @liveP.eq_1 (And.intro @liveP.eq_2 (And.intro @liveP.eq_3 (And.intro @liveP.eq_4 (And.intro @liveA.eq_1 (And.intro @liveA.eq_2 (And.intro @liveA.eq_3 (And.intro @liveA.eq_4 (And.intro @s2bA.eq_1 (And.intro @s2bA.eq_2 (And.intro @b2sA.eq_1 (And.intro @b2sK.eq_1 (And.intro @boxA.eq_1 (And.intro @boxK.eq_1 (And.intro @buildA.eq_1 (And.intro @buildA.eq_2 (And.intro @buildK.eq_1 (And.intro @aggK.eq_1 (And.intro @bslA.eq_1 (And.intro @bslA.eq_2 (And.intro @bslK.eq_1 (And.intro @rowK.eq_1 (And.intro @ldK.eq_1 (And.intro @ldDK.eq_1 (And.intro @getA.eq_1 (@getA.eq_2)))))))))))))))))))))))))))))
theorem vz2 :
    type_of% (And.intro @getA.eq_3 (And.intro @loadA.eq_1 (And.intro @loadA.eq_2 (And.intro @loadA.eq_3 (And.intro @loadA.eq_4 (And.intro @loadR.eq_1 (And.intro @loadE.eq_1 (And.intro @loadE.eq_2 (And.intro @storeA.eq_1 (And.intro @storeA.eq_2 (And.intro @stR.eq_1 (And.intro @stC.eq_1 (And.intro @stE.eq_1 (And.intro @mkslA.eq_1 (And.intro @mkslA.eq_2 (And.intro @evO.eq_1 (And.intro @sliceA.eq_1 (And.intro @sliceB.eq_1 (And.intro @sliceB.eq_2 (And.intro @sliceB.eq_3 (And.intro @sliceB.eq_4 (And.intro @sliceB.eq_5 (And.intro @bI.eq_1 (And.intro @bI.eq_2 (And.intro @bI.eq_3 (And.intro @dfl.eq_1 (And.intro @dfl.eq_2 (And.intro @dfl.eq_3 (And.intro @dfl.eq_4 (@fldAA.eq_1)))))))))))))))))))))))))))))) :=
  And.intro @getA.eq_3 (And.intro @loadA.eq_1 (And.intro @loadA.eq_2 (And.intro @loadA.eq_3 (And.intro @loadA.eq_4 (And.intro @loadR.eq_1 (And.intro @loadE.eq_1 (And.intro @loadE.eq_2 (And.intro @storeA.eq_1 (And.intro @storeA.eq_2 (And.intro @stR.eq_1 (And.intro @stC.eq_1 (And.intro @stE.eq_1 (And.intro @mkslA.eq_1 (And.intro @mkslA.eq_2 (And.intro @evO.eq_1 (And.intro @sliceA.eq_1 (And.intro @sliceB.eq_1 (And.intro @sliceB.eq_2 (And.intro @sliceB.eq_3 (And.intro @sliceB.eq_4 (And.intro @sliceB.eq_5 (And.intro @bI.eq_1 (And.intro @bI.eq_2 (And.intro @bI.eq_3 (And.intro @dfl.eq_1 (And.intro @dfl.eq_2 (And.intro @dfl.eq_3 (And.intro @dfl.eq_4 (@fldAA.eq_1)))))))))))))))))))))))))))))
theorem vz3 :
    type_of% (And.intro @fldAA.eq_2 (And.intro @fldAA.eq_3 (And.intro @fldG.eq_1 (And.intro @fldG.eq_2 (And.intro @fldG.eq_3 (And.intro @idxK.eq_1 (And.intro @idxAA.eq_1 (And.intro @idxAA.eq_2 (And.intro @idxAA.eq_3 (And.intro @idxAA.eq_4 (And.intro @idxAA.eq_5 (And.intro @idxG.eq_1 (And.intro @idxG.eq_2 (And.intro @idxG.eq_3 (And.intro @byK.eq_1 (And.intro @idxSA.eq_1 (And.intro @idxSA.eq_2 (And.intro @extA.eq_1 (And.intro @extA.eq_2 (And.intro @lenA.eq_1 (And.intro @lenA.eq_2 (And.intro @lenA.eq_3 (And.intro @lenA.eq_4 (And.intro @lenA.eq_5 (And.intro @elemsE.eq_1 (And.intro @elemsA.eq_1 (And.intro @elemsA.eq_2 (And.intro @elemsA.eq_3 (And.intro @elemsA.eq_4 (@elemsA.eq_5)))))))))))))))))))))))))))))) :=
  And.intro @fldAA.eq_2 (And.intro @fldAA.eq_3 (And.intro @fldG.eq_1 (And.intro @fldG.eq_2 (And.intro @fldG.eq_3 (And.intro @idxK.eq_1 (And.intro @idxAA.eq_1 (And.intro @idxAA.eq_2 (And.intro @idxAA.eq_3 (And.intro @idxAA.eq_4 (And.intro @idxAA.eq_5 (And.intro @idxG.eq_1 (And.intro @idxG.eq_2 (And.intro @idxG.eq_3 (And.intro @byK.eq_1 (And.intro @idxSA.eq_1 (And.intro @idxSA.eq_2 (And.intro @extA.eq_1 (And.intro @extA.eq_2 (And.intro @lenA.eq_1 (And.intro @lenA.eq_2 (And.intro @lenA.eq_3 (And.intro @lenA.eq_4 (And.intro @lenA.eq_5 (And.intro @elemsE.eq_1 (And.intro @elemsA.eq_1 (And.intro @elemsA.eq_2 (And.intro @elemsA.eq_3 (And.intro @elemsA.eq_4 (@elemsA.eq_5)))))))))))))))))))))))))))))
theorem vz4 :
    type_of% (And.intro @appA.eq_1 (And.intro @appA.eq_2 (And.intro @appA.eq_3 (And.intro @appR.eq_1 (And.intro @copA.eq_1 (And.intro @copA.eq_2 (And.intro @copA.eq_3 (And.intro @copR.eq_1 (And.intro @clrA.eq_1 (And.intro @clrA.eq_2 (And.intro @clrR.eq_1 (And.intro @idxBA.eq_1 (And.intro @idxBA.eq_2 (And.intro @rngA.eq_1 (And.intro @rngA.eq_2 (And.intro @nxtA.eq_1 (And.intro @nxtA.eq_2 (And.intro @nxtR.eq_1 (And.intro @nxtR.eq_2 (And.intro @lkpA.eq_1 (And.intro @lkpA.eq_2 (And.intro @lkpR.eq_1 (And.intro @lkpR.eq_2 (And.intro @lkpK.eq_1 (And.intro @lkpK.eq_2 (And.intro @updA.eq_1 (And.intro @updA.eq_2 (And.intro @updR.eq_1 (And.intro @updR.eq_2 (@isSc.eq_1)))))))))))))))))))))))))))))) :=
  And.intro @appA.eq_1 (And.intro @appA.eq_2 (And.intro @appA.eq_3 (And.intro @appR.eq_1 (And.intro @copA.eq_1 (And.intro @copA.eq_2 (And.intro @copA.eq_3 (And.intro @copR.eq_1 (And.intro @clrA.eq_1 (And.intro @clrA.eq_2 (And.intro @clrR.eq_1 (And.intro @idxBA.eq_1 (And.intro @idxBA.eq_2 (And.intro @rngA.eq_1 (And.intro @rngA.eq_2 (And.intro @nxtA.eq_1 (And.intro @nxtA.eq_2 (And.intro @nxtR.eq_1 (And.intro @nxtR.eq_2 (And.intro @lkpA.eq_1 (And.intro @lkpA.eq_2 (And.intro @lkpR.eq_1 (And.intro @lkpR.eq_2 (And.intro @lkpK.eq_1 (And.intro @lkpK.eq_2 (And.intro @updA.eq_1 (And.intro @updA.eq_2 (And.intro @updR.eq_1 (And.intro @updR.eq_2 (@isSc.eq_1)))))))))))))))))))))))))))))
theorem vz5 :
    type_of% (And.intro @isSc.eq_2 (And.intro @isSc.eq_3 (And.intro @isSc.eq_4 (And.intro @mnA.eq_1 (And.intro @mnA.eq_2 (And.intro @mxA.eq_1 (And.intro @mxA.eq_2 (And.intro @retA.eq_1 (And.intro @retA.eq_2 (And.intro @retA.eq_3 (And.intro @retK.eq_1 (And.intro @snapL.eq_1 (And.intro @snapL.eq_2 (And.intro @snapL.eq_3 (And.intro @snapL.eq_4 (And.intro @tupOf.eq_1 (And.intro @tupOf.eq_2 (And.intro @V.d.injEq (And.intro @D.int.injEq (And.intro @D.bool.injEq (And.intro @D.str.injEq (And.intro @mkF.eq_1 (And.intro @List.foldl.eq_1.{0,0} (And.intro @List.foldl.eq_2.{0,0} (And.intro @wkA.eq_1 (And.intro @wkA.eq_2 (And.intro @wkA.eq_3 (And.intro @wkA.eq_4 (And.intro @wkA.eq_5 (@rowAt.eq_1)))))))))))))))))))))))))))))) :=
  And.intro @isSc.eq_2 (And.intro @isSc.eq_3 (And.intro @isSc.eq_4 (And.intro @mnA.eq_1 (And.intro @mnA.eq_2 (And.intro @mxA.eq_1 (And.intro @mxA.eq_2 (And.intro @retA.eq_1 (And.intro @retA.eq_2 (And.intro @retA.eq_3 (And.intro @retK.eq_1 (And.intro @snapL.eq_1 (And.intro @snapL.eq_2 (And.intro @snapL.eq_3 (And.intro @snapL.eq_4 (And.intro @tupOf.eq_1 (And.intro @tupOf.eq_2 (And.intro @V.d.injEq (And.intro @D.int.injEq (And.intro @D.bool.injEq (And.intro @D.str.injEq (And.intro @mkF.eq_1 (And.intro @List.foldl.eq_1.{0,0} (And.intro @List.foldl.eq_2.{0,0} (And.intro @wkA.eq_1 (And.intro @wkA.eq_2 (And.intro @wkA.eq_3 (And.intro @wkA.eq_4 (And.intro @wkA.eq_5 (@rowAt.eq_1)))))))))))))))))))))))))))))
theorem vz6 :
    type_of% (And.intro @rowAt.eq_2 (And.intro @rowAt.eq_3 (And.intro @oneV.eq_1 (And.intro @oneV.eq_2 (And.intro @oneV.eq_3 (And.intro @oneV.eq_4 (And.intro @setR.eq_1 (And.intro @notStr.eq_1 (And.intro @notStr.eq_2 (And.intro @List.replicate.eq_1.{0} (And.intro @List.replicate.eq_2.{0} (And.intro @List.length.eq_1.{0} (And.intro @List.length.eq_2.{0} (And.intro @List.length_append.{0} (And.intro @List.cons_append.{0} (And.intro @List.nil_append.{0} (And.intro @List.append_nil.{0} (And.intro @List.map.eq_1.{0,0} (And.intro @List.map.eq_2.{0,0} (And.intro @List.all.eq_1.{0} (And.intro @List.all.eq_2.{0} (And.intro @List.take.eq_1.{0} (And.intro @List.take.eq_2.{0} (And.intro @List.take.eq_3.{0} (And.intro @List.drop.eq_1.{0} (And.intro @List.drop.eq_2.{0} (And.intro @List.drop.eq_3.{0} (And.intro @List.set.eq_1.{0} (And.intro @List.set.eq_2.{0} (@List.set.eq_3.{0})))))))))))))))))))))))))))))) :=
  And.intro @rowAt.eq_2 (And.intro @rowAt.eq_3 (And.intro @oneV.eq_1 (And.intro @oneV.eq_2 (And.intro @oneV.eq_3 (And.intro @oneV.eq_4 (And.intro @setR.eq_1 (And.intro @notStr.eq_1 (And.intro @notStr.eq_2 (And.intro @List.replicate.eq_1.{0} (And.intro @List.replicate.eq_2.{0} (And.intro @List.length.eq_1.{0} (And.intro @List.length.eq_2.{0} (And.intro @List.length_append.{0} (And.intro @List.cons_append.{0} (And.intro @List.nil_append.{0} (And.intro @List.append_nil.{0} (And.intro @List.map.eq_1.{0,0} (And.intro @List.map.eq_2.{0,0} (And.intro @List.all.eq_1.{0} (And.intro @List.all.eq_2.{0} (And.intro @List.take.eq_1.{0} (And.intro @List.take.eq_2.{0} (And.intro @List.take.eq_3.{0} (And.intro @List.drop.eq_1.{0} (And.intro @List.drop.eq_2.{0} (And.intro @List.drop.eq_3.{0} (And.intro @List.set.eq_1.{0} (And.intro @List.set.eq_2.{0} (@List.set.eq_3.{0})))))))))))))))))))))))))))))
theorem vz7 :
    type_of% (And.intro @Option.map_some.{0,0} (And.intro @Option.map_none.{0,0} (And.intro @ne_eq.{1} (And.intro @not_false_eq_true (And.intro @not_true_eq_false (And.intro @bne_self_eq_false.{0} (And.intro @beq_self_eq_true.{0} (And.intro @Bool.not_true (And.intro @Bool.not_false (And.intro @decide_true (And.intro @decide_false (And.intro @Bool.and_true (And.intro @Bool.true_and (And.intro @eq_self.{1} (And.intro @true_and (And.intro @and_true (And.intro @forall_const.{1} (And.intro @false_implies (And.intro @true_implies (And.intro @Nat.zero_add (And.intro @Nat.add_zero (And.intro @Nat.zero_mul (And.intro @Nat.le_refl (@Nat.lt_irrefl)))))))))))))))))))))))) :=
  And.intro @Option.map_some.{0,0} (And.intro @Option.map_none.{0,0} (And.intro @ne_eq.{1} (And.intro @not_false_eq_true (And.intro @not_true_eq_false (And.intro @bne_self_eq_false.{0} (And.intro @beq_self_eq_true.{0} (And.intro @Bool.not_true (And.intro @Bool.not_false (And.intro @decide_true (And.intro @decide_false (And.intro @Bool.and_true (And.intro @Bool.true_and (And.intro @eq_self.{1} (And.intro @true_and (And.intro @and_true (And.intro @forall_const.{1} (And.intro @false_implies (And.intro @true_implies (And.intro @Nat.zero_add (And.intro @Nat.add_zero (And.intro @Nat.zero_mul (And.intro @Nat.le_refl (@Nat.lt_irrefl)))))))))))))))))))))))
theorem vz : type_of% (And.intro vz0 (And.intro vz1 (And.intro vz2 (And.intro vz3 (And.intro vz4 (And.intro vz5 (And.intro vz6 (vz7)))))))) :=
  And.intro vz0 (And.intro vz1 (And.intro vz2 (And.intro vz3 (And.intro vz4 (And.intro vz5 (And.intro vz6 (vz7)))))))
end Go.Vx

namespace Go.Vx
abbrev B := List UInt8
theorem dt {p : Prop} [Decidable p] (h : p) : decide p = true := decide_eq_true h
theorem df {p : Prop} [Decidable p] (h : ¬ p) : decide p = false := decide_eq_false h
theorem hm : (maxLen : Int) ≤ 9223372036854775807 := by decide
theorem mL : 100000 ≤ maxLen := by decide
theorem get_ex {α : Type} {l : List α} {i : Nat} (h : i < l.length) : ∃ x, l[i]? = some x := ⟨_, List.getElem?_eq_getElem h⟩
theorem getM_at {α β : Type} {l : List α} {f : α → β} {i : Nat} {x : α} {g : β → Prop} (h : l[i]? = some x) (hk : g (f x)) : getA (l.map f) (i : Int).toNat g :=
  getA_iff.2 ⟨f x, by simp [h], hk⟩
theorem getM_nat {α β : Type} {l : List α} {f : α → β} {i : Nat} {x : α} {g : β → Prop} (h : l[i]? = some x) (hk : g (f x)) : getA (l.map f) i g :=
  getA_iff.2 ⟨f x, by simp [h], hk⟩
theorem drop_at {α : Type} {l : List α} {i : Nat} {x : α} (h : l[i]? = some x) : l.drop i = x :: l.drop (i + 1) := by
  obtain ⟨h1, h2⟩ := List.getElem?_eq_some_iff.1 h
  rw [List.drop_eq_getElem_cons h1, h2]
theorem drop_end {α : Type} {l : List α} {i : Nat} (h : l.length ≤ i) : l.drop i = [] := List.drop_eq_nil_of_le h
theorem take_at {α : Type} {l : List α} {i : Nat} {x : α} (h : l[i]? = some x) : l.take (i + 1) = l.take i ++ [x] := by
  obtain ⟨h1, h2⟩ := List.getElem?_eq_some_iff.1 h
  rw [List.take_succ_eq_append_getElem h1, h2]
theorem take_end {α : Type} {l : List α} {i : Nat} (h : l.length ≤ i) : l.take i = l := List.take_of_length_le h
theorem kpL_refl {m : Nat} {rows : Rows} {fr : List V} (h : fr.all (hB m) = true) : kpL m rows fr fr := by
  induction fr with
  | nil => trivial
  | cons x l ih =>
    simp only [List.all_cons, Bool.and_eq_true] at h
    exact ⟨.same _ h.1, ih h.2⟩
def iD (x : Int) : List D := [.int .i64 x]
def sD (s : B) : List D := [.str s]
theorem sn_all {rows : Rows} {sz h n : Nat} {es : List (List D)} (hrow : rowAt rows h = .live sz (es.map (·.map .d))) (hn : n = es.length) (hsz : ∀ e ∈ es, e.length = sz) : Snap rows (.osl sz h n 0 n) (.d (.sl sz es)) :=
  sn_osl (es := es) hrow hn.symm (by omega) hsz (by rw [List.drop_zero, List.take_of_length_le (by omega)])
theorem szs {l : List B} : ∀ e ∈ l.map sD, e.length = 1 := fun e he => by obtain ⟨t, _, rfl⟩ := List.mem_map.1 he; rfl
theorem szi {l : List Int} : ∀ e ∈ l.map iD, e.length = 1 := fun e he => by obtain ⟨t, _, rfl⟩ := List.mem_map.1 he; rfl
theorem kpL_set {m : Nat} {rows : Rows} {fr : List V} {i : Nat} {v v' : V} (h1 : fr[i]? = some v) (h2 : Snap (hiRows m rows) v v') (h3 : (fr.eraseIdx i).all (hB m) = true) : kpL m rows fr (fr.set i v') := by
  induction fr generalizing i with
  | nil => simp at h1
  | cons x l ih =>
    cases i with
    | zero => simp at h1; subst h1; exact ⟨.snap _ _ h2, kpL_refl (by simpa using h3)⟩
    | succ i =>
      simp only [List.eraseIdx_cons_succ, List.all_cons, Bool.and_eq_true] at h3
      exact ⟨.same _ h3.1, ih (by simpa using h1) h3.2⟩
def wkAt : Nat → AC → AC
  | 0, a => .wk a
  | n + 1, .seq a b => .seq a (wkAt n b)
  | _, a => a
theorem weak_frzA {b0 : Nat} {fr fr' : List V} {A T A' : Rows} (hm : b0 ≤ A.length) (hA : rowsK A.length (A ++ T) A A') (hk : kpL A.length (A ++ T) fr fr') : Weak b0 ⟨fr, A ++ T⟩ ⟨fr', A'⟩ :=
  weak_frz2 A.length hm (by rw [List.take_left]; exact hA) hk
theorem rowsK_same {m : Nat} {rows l : Rows} (h : ∀ r ∈ l, rowB m r) : rowsK m rows l l := by
  induction l with
  | nil => trivial
  | cons r l ih => exact ⟨.same _ (h r (by simp)), ih fun x hx => h x (by simp [hx])⟩
theorem sn_ptr {rows : Rows} {h : Nat} {cs : List D} {sz : Nat} (hrow : rows[h]? = some (.live sz [cs.map .d])) (hl : cs.length ≤ sz) : Snap rows (.optr sz h 1 0 0) (.d (.ptr cs)) :=
  .optr sz h 1 0 0 _ _ cs hrow rfl rfl (by omega) fun j v y h1 h2 => by
    rw [Nat.zero_add, List.getElem?_map, h2] at h1
    injection h1 with h1; subst h1
    exact .d _
theorem getI_at {α : Type} {l : List α} {i : Nat} {x : α} {g : α → Prop} (h : l[i]? = some x) (hk : g x) : getA l i g := getA_iff.2 ⟨x, h, hk⟩
end Go.Vx
