import Derived.Test.YtkbjfoodikoppaaDoorVxWeak
set_option linter.unusedSectionVars false
set_option linter.unusedSimpArgs false
set_option linter.unusedVariables false
namespace Go.Vx
set_option linter.unusedSectionVars false
variable [CtxPred]

/-- all of the rules, as one -/
theorem vx :
    (∀ {P : Program} {base : Nat} {K : St → Prop} {S : St}, runW P base [] K S = K S) ∧
    (∀ {P : Program} {base : Nat} {hi : Nat} {l : List AStm} {K : St → Prop} {fr : List V} {rows : Rows} {dst : Option Nat} {g : Option (Nat × Bool)} {act : AAct}, runW P base (⟨dst, hi, g, act⟩ :: l) K ⟨fr, rows⟩ = stmU P base ⟨dst, hi, g, act⟩ ⟨fr, rows⟩ (runK P base l K dst fr rows)) ∧
    (∀ {P : Program} {base : Nat} {l : List AStm} {K : St → Prop} {fr : List V} {rows : Rows} {dst : Option Nat} {v : V} {u : List (Nat × RowS)}, runK P base l K dst fr rows v u = runW P base l K ⟨putV fr dst v, setRows rows u⟩) ∧
    (∀ {P : Program} {base : Nat} {K : St → Prop} {S : St}, runQ P base [] K S = K S) ∧
    (∀ {P : Program} {base : Nat} {hi : Nat} {l : List AStm} {K : St → Prop} {fr : List V} {rows : Rows} {dst : Option Nat} {g : Option (Nat × Bool)} {act : AAct}, runQ P base (⟨dst, hi, g, act⟩ :: l) K ⟨fr, rows⟩ = stmU P base ⟨dst, hi, g, act⟩ ⟨fr, rows⟩ (runQK P base l K dst fr rows)) ∧
    (∀ {P : Program} {base : Nat} {l : List AStm} {K : St → Prop} {fr : List V} {rows : Rows} {dst : Option Nat} {v : V}, runQK P base l K dst fr rows v [] = runQ P base l K ⟨putV fr dst v, rows⟩) ∧
    (∀ {P : Program} {base : Nat} {K : St → Prop} {acc : List (List Nat × List Nat)} {S : St}, runD P base [] acc K S = K S) ∧
    (∀ {P : Program} {base : Nat} {hi : Nat} {K : St → Prop} {fr : List V} {rows : Rows} {dst : Option Nat} {acc : List (List Nat × List Nat)} {dl : List (AStm × List Nat)} {pre : List Nat} {g : Option (Nat × Bool)} {act : AAct}, runD P base ((⟨dst, hi, g, act⟩, pre) :: dl) acc K ⟨fr, rows⟩ = stmU P base ⟨dst, hi, g, act⟩ ⟨fr, rows⟩ (runDK P base dl acc K dst pre (AStm.foot ⟨dst, hi, g, act⟩ base fr) fr rows)) ∧
    (∀ {P : Program} {base : Nat} {K : St → Prop} {fl : List Bool} {S : St}, runI P base fl [] K S = K S) ∧
    (∀ {P : Program} {base : Nat} {hi : Nat} {l : List AStm} {K : St → Prop} {fr : List V} {rows : Rows} {dst : Option Nat} {fl : List Bool} {f : Opd} {as : List Opd}, runI P base (true :: fl) (⟨dst, hi, none, .call f as⟩ :: l) K ⟨fr, rows⟩ = inlA P (f.ev fr) (evs fr as) rows (inlK P base fl l K dst fr)) ∧
    (∀ {P : Program} {base : Nat} {hi : Nat} {l : List AStm} {K : St → Prop} {fr : List V} {rows : Rows} {dst : Option Nat} {fl : List Bool} {t : Nat} {w : Bool} {f : Opd} {as : List Opd}, runI P base (true :: fl) (⟨dst, hi, some (t, w), .call f as⟩ :: l) K ⟨fr, rows⟩ = (nth fr t = .d (.bool w) ∧ inlA P (f.ev fr) (evs fr as) rows (inlK P base fl l K dst fr))) ∧
    (∀ {P : Program} {base : Nat} {hi : Nat} {l : List AStm} {K : St → Prop} {fr : List V} {rows : Rows} {dst : Option Nat} {fl : List Bool} {g : Option (Nat × Bool)} {act : AAct}, runI P base (false :: fl) (⟨dst, hi, g, act⟩ :: l) K ⟨fr, rows⟩ = stmU P base ⟨dst, hi, g, act⟩ ⟨fr, rows⟩ (runIK P base fl l K dst fr rows)) ∧
    (∀ {P : Program} {base : Nat} {hi : Nat} {l : List AStm} {K : St → Prop} {fr : List V} {rows : Rows} {dst : Option Nat} {g : Option (Nat × Bool)} {act : AAct}, runI P base [] (⟨dst, hi, g, act⟩ :: l) K ⟨fr, rows⟩ = stmU P base ⟨dst, hi, g, act⟩ ⟨fr, rows⟩ (runIK P base [] l K dst fr rows)) ∧
    (∀ {P : Program} {base : Nat} {l : List AStm} {K : St → Prop} {fr : List V} {rows : Rows} {dst : Option Nat} {fl : List Bool} {v : V} {u : List (Nat × RowS)}, runIK P base fl l K dst fr rows v u = runI P base fl l K ⟨putV fr dst v, setRows rows u⟩) ∧
    (∀ {P : Program} {base : Nat} {l : List AStm} {K : St → Prop} {fr : List V} {dst : Option Nat} {fl : List Bool} {v : V} {rows' : Rows}, inlK P base fl l K dst fr v rows' = runI P base fl l K ⟨putV fr dst v, rows'⟩) ∧
    (∀ {P : Program} {base : Nat} {hi : Nat} {fr : List V} {rows : Rows} {dst : Option Nat} {κ : KV} {x : Opd}, stmU P base ⟨dst, hi, none, .op (.mov x)⟩ ⟨fr, rows⟩ κ = κ (x.ev fr) []) ∧
    (∀ {P : Program} {base : Nat} {hi : Nat} {fr : List V} {rows : Rows} {dst : Option Nat} {κ : KV} {t : Nat} {w : Bool} {act : AAct}, stmU P base ⟨dst, hi, some (t, w), act⟩ ⟨fr, rows⟩ κ = guardA (nth fr t) w P base ⟨dst, hi, none, act⟩ ⟨fr, rows⟩ κ) ∧
    (∀ {P : Program} {base : Nat} {κ : KV} {s : AStm} {S : St}, guardA (.d (.bool true)) true P base s S κ = stmU P base s S κ) ∧
    (∀ {P : Program} {base : Nat} {κ : KV} {s : AStm} {S : St}, guardA (.d (.bool false)) false P base s S κ = stmU P base s S κ) ∧
    (∀ {P : Program} {base : Nat} {κ : KV} {s : AStm} {S : St}, guardA (.d (.bool true)) false P base s S κ = κ (.tup []) []) ∧
    (∀ {P : Program} {base : Nat} {κ : KV} {s : AStm} {S : St}, guardA (.d (.bool false)) true P base s S κ = κ (.tup []) []) ∧
    (∀ {P : Program} {base : Nat} {κ : KV} {s : AStm} {S : St} {w : Bool}, guardA (.tup []) w P base s S κ = κ (.tup []) []) ∧
    (∀ {P : Program} {base : Nat} {hi : Nat} {fr : List V} {rows : Rows} {dst : Option Nat} {κ : KV} {c a b : Opd}, stmU P base ⟨dst, hi, none, .op (.pick c a b)⟩ ⟨fr, rows⟩ κ = pickA (c.ev fr) (a.ev fr) (b.ev fr) κ) ∧
    (∀ {P : Program} {base : Nat} {hi : Nat} {fr : List V} {rows : Rows} {dst : Option Nat} {κ : KV} {op : BinOp} {x y : Opd}, stmU P base ⟨dst, hi, none, .op (.bin op x y)⟩ ⟨fr, rows⟩ κ = binA op (x.ev fr) (y.ev fr) κ) ∧
    (∀ {P : Program} {base : Nat} {hi : Nat} {fr : List V} {rows : Rows} {dst : Option Nat} {κ : KV} {op : UnOp} {x : Opd}, stmU P base ⟨dst, hi, none, .op (.un op x)⟩ ⟨fr, rows⟩ κ = unA op (x.ev fr) κ) ∧
    (∀ {P : Program} {base : Nat} {hi : Nat} {fr : List V} {rows : Rows} {dst : Option Nat} {κ : KV} {neg : Bool} {x y : Opd}, stmU P base ⟨dst, hi, none, .op (.eqB neg x y)⟩ ⟨fr, rows⟩ κ = eqBA neg (x.ev fr) (y.ev fr) κ) ∧
    (∀ {P : Program} {base : Nat} {hi : Nat} {fr : List V} {rows : Rows} {dst : Option Nat} {κ : KV} {neg : Bool} {ks : List Nat} {x y : Opd}, stmU P base ⟨dst, hi, none, .op (.eqS neg ks x y)⟩ ⟨fr, rows⟩ κ = eqSA neg ks (x.ev fr) (y.ev fr) κ) ∧
    (∀ {P : Program} {base : Nat} {hi : Nat} {fr : List V} {rows : Rows} {dst : Option Nat} {κ : KV} {neg : Bool} {x y : Opd}, stmU P base ⟨dst, hi, none, .op (.isNil neg x y)⟩ ⟨fr, rows⟩ κ = isNilA neg (x.ev fr) (y.ev fr) κ) ∧
    (∀ {P : Program} {base : Nat} {hi : Nat} {fr : List V} {rows : Rows} {dst : Option Nat} {κ : KV} {k : IntKind} {x : Opd}, stmU P base ⟨dst, hi, none, .op (.conv k x)⟩ ⟨fr, rows⟩ κ = convA k (x.ev fr) κ) ∧
    (∀ {P : Program} {base : Nat} {hi : Nat} {fr : List V} {rows : Rows} {dst : Option Nat} {κ : KV} {x : Opd}, stmU P base ⟨dst, hi, none, .op (.same x)⟩ ⟨fr, rows⟩ κ = sameA (x.ev fr) κ) ∧
    (∀ {P : Program} {base : Nat} {hi : Nat} {fr : List V} {rows : Rows} {dst : Option Nat} {κ : KV} {x : Opd}, stmU P base ⟨dst, hi, none, .op (.nilck x)⟩ ⟨fr, rows⟩ κ = nilckA rows (x.ev fr) κ) ∧
    (∀ {P : Program} {base : Nat} {hi : Nat} {fr : List V} {rows : Rows} {dst : Option Nat} {κ : KV} {x : Opd}, stmU P base ⟨dst, hi, none, .op (.s2b x)⟩ ⟨fr, rows⟩ κ = (rowAt rows (base + hi) = .un ∧ s2bA (base + hi) (x.ev fr) κ)) ∧
    (∀ {P : Program} {base : Nat} {hi : Nat} {fr : List V} {rows : Rows} {dst : Option Nat} {κ : KV} {x : Opd}, stmU P base ⟨dst, hi, none, .op (.b2s x)⟩ ⟨fr, rows⟩ κ = b2sA rows (x.ev fr) κ) ∧
    (∀ {P : Program} {base : Nat} {hi : Nat} {fr : List V} {rows : Rows} {dst : Option Nat} {κ : KV} {z : List D}, stmU P base ⟨dst, hi, none, .op (.alloc z)⟩ ⟨fr, rows⟩ κ = (rowAt rows (base + hi) = .un ∧ κ (.optr z.length (base + hi) 1 0 0) [(base + hi, .live z.length [z.map .d])])) ∧
    (∀ {P : Program} {base : Nat} {hi : Nat} {fr : List V} {rows : Rows} {dst : Option Nat} {κ : KV} {sz : Nat} {x : Opd}, stmU P base ⟨dst, hi, none, .op (.box sz x)⟩ ⟨fr, rows⟩ κ = (rowAt rows (base + hi) = .un ∧ boxA sz (base + hi) (x.ev fr) κ)) ∧
    (∀ {P : Program} {base : Nat} {hi : Nat} {fr : List V} {rows : Rows} {dst : Option Nat} {κ : KV} {z : List D} {ps : List (Nat × Nat × Opd)}, stmU P base ⟨dst, hi, none, .op (.build z ps)⟩ ⟨fr, rows⟩ κ = buildA fr ps (z.map .d) (aggK κ)) ∧
    (∀ {P : Program} {base : Nat} {hi : Nat} {fr : List V} {rows : Rows} {dst : Option Nat} {κ : KV} {sz n : Nat} {z : List D} {ps : List (Nat × Opd)}, stmU P base ⟨dst, hi, none, .op (.buildSl sz n z ps)⟩ ⟨fr, rows⟩ κ =
    (rowAt rows (base + hi) = .un ∧ bslA fr sz ps (List.replicate n (z.map .d)) (rowK sz (base + hi) n κ))) ∧
    (∀ {P : Program} {base : Nat} {hi : Nat} {fr : List V} {rows : Rows} {dst : Option Nat} {κ : KV} {agg : Bool} {sz : Nat} {x : Opd}, stmU P base ⟨dst, hi, none, .op (.load agg sz x)⟩ ⟨fr, rows⟩ κ = loadA rows agg sz (x.ev fr) κ) ∧
    (∀ {P : Program} {base : Nat} {hi : Nat} {fr : List V} {rows : Rows} {dst : Option Nat} {κ : KV} {sz : Nat} {a x : Opd}, stmU P base ⟨dst, hi, none, .op (.store sz a x)⟩ ⟨fr, rows⟩ κ = storeA rows sz (a.ev fr) (x.ev fr) κ) ∧
    (∀ {P : Program} {base : Nat} {hi : Nat} {fr : List V} {rows : Rows} {dst : Option Nat} {κ : KV} {sz bytes : Nat} {z : List D} {x y : Opd}, stmU P base ⟨dst, hi, none, .op (.mksl sz bytes z x y)⟩ ⟨fr, rows⟩ κ = (rowAt rows (base + hi) = .un ∧ mkslA sz bytes z (base + hi) (x.ev fr) (y.ev fr) κ)) ∧
    (∀ {P : Program} {base : Nat} {hi : Nat} {fr : List V} {rows : Rows} {dst : Option Nat} {κ : KV} {sz : Nat} {x : Opd} {lo h : Option Opd}, stmU P base ⟨dst, hi, none, .op (.slice sz x lo h)⟩ ⟨fr, rows⟩ κ = sliceA rows sz (x.ev fr) (evO fr lo) (evO fr h) κ) ∧
    (∀ {P : Program} {base : Nat} {hi : Nat} {fr : List V} {rows : Rows} {dst : Option Nat} {κ : KV} {off : Nat} {x : Opd}, stmU P base ⟨dst, hi, none, .op (.fldA off x)⟩ ⟨fr, rows⟩ κ = fldAA rows off (x.ev fr) κ) ∧
    (∀ {P : Program} {base : Nat} {hi : Nat} {fr : List V} {rows : Rows} {dst : Option Nat} {κ : KV} {off sz : Nat} {agg : Bool} {x : Opd}, stmU P base ⟨dst, hi, none, .op (.fld off sz agg x)⟩ ⟨fr, rows⟩ κ = fldG off sz agg (x.ev fr) κ) ∧
    (∀ {P : Program} {base : Nat} {hi : Nat} {fr : List V} {rows : Rows} {dst : Option Nat} {κ : KV} {sz : Nat} {arr : Option Nat} {x i : Opd}, stmU P base ⟨dst, hi, none, .op (.idxA sz arr x i)⟩ ⟨fr, rows⟩ κ = idxAA rows sz arr (x.ev fr) (i.ev fr) κ) ∧
    (∀ {P : Program} {base : Nat} {hi : Nat} {fr : List V} {rows : Rows} {dst : Option Nat} {κ : KV} {sz n : Nat} {agg : Bool} {x i : Opd}, stmU P base ⟨dst, hi, none, .op (.idx sz n agg x i)⟩ ⟨fr, rows⟩ κ = idxG sz n agg (x.ev fr) (i.ev fr) κ) ∧
    (∀ {P : Program} {base : Nat} {hi : Nat} {fr : List V} {rows : Rows} {dst : Option Nat} {κ : KV} {x i : Opd}, stmU P base ⟨dst, hi, none, .op (.idxS x i)⟩ ⟨fr, rows⟩ κ = idxSA (x.ev fr) (i.ev fr) κ) ∧
    (∀ {P : Program} {base : Nat} {hi : Nat} {fr : List V} {rows : Rows} {dst : Option Nat} {κ : KV} {x : Opd} {i : Nat}, stmU P base ⟨dst, hi, none, .op (.ext x i)⟩ ⟨fr, rows⟩ κ = extA i (x.ev fr) κ) ∧
    (∀ {P : Program} {base : Nat} {hi : Nat} {fr : List V} {rows : Rows} {dst : Option Nat} {κ : KV} {f : Fn} {a b : List Opd}, stmU P base ⟨dst, hi, none, .op (.mkfn f a b)⟩ ⟨fr, rows⟩ κ = κ (.fn f (evs fr a) (evs fr b)) []) ∧
    (∀ {P : Program} {base : Nat} {hi : Nat} {fr : List V} {rows : Rows} {dst : Option Nat} {κ : KV} {str : Bool} {x : Opd}, stmU P base ⟨dst, hi, none, .op (.len str x)⟩ ⟨fr, rows⟩ κ = lenA rows str (x.ev fr) κ) ∧
    (∀ {P : Program} {base : Nat} {hi : Nat} {fr : List V} {rows : Rows} {dst : Option Nat} {κ : KV} {sz bytes : Nat} {s x : Opd}, stmU P base ⟨dst, hi, none, .op (.append sz bytes s x)⟩ ⟨fr, rows⟩ κ =
    (rowAt rows (base + hi) = .un ∧ elemsA rows sz (x.ev fr) (appA rows sz bytes (base + hi) (s.ev fr) κ))) ∧
    (∀ {P : Program} {base : Nat} {hi : Nat} {fr : List V} {rows : Rows} {dst : Option Nat} {κ : KV} {sz : Nat} {d s : Opd}, stmU P base ⟨dst, hi, none, .op (.copy sz d s)⟩ ⟨fr, rows⟩ κ = elemsA rows sz (s.ev fr) (copA rows sz (d.ev fr) κ)) ∧
    (∀ {P : Program} {base : Nat} {hi : Nat} {fr : List V} {rows : Rows} {dst : Option Nat} {κ : KV} {sz : Nat} {z : List D} {x : Opd}, stmU P base ⟨dst, hi, none, .op (.clr sz z x)⟩ ⟨fr, rows⟩ κ = clrA rows sz z (x.ev fr) κ) ∧
    (∀ {P : Program} {base : Nat} {hi : Nat} {fr : List V} {rows : Rows} {dst : Option Nat} {κ : KV} {x y : Opd}, stmU P base ⟨dst, hi, none, .op (.mn x y)⟩ ⟨fr, rows⟩ κ = mnA (x.ev fr) (y.ev fr) κ) ∧
    (∀ {P : Program} {base : Nat} {hi : Nat} {fr : List V} {rows : Rows} {dst : Option Nat} {κ : KV} {x y : Opd}, stmU P base ⟨dst, hi, none, .op (.mx x y)⟩ ⟨fr, rows⟩ κ = mxA (x.ev fr) (y.ev fr) κ) ∧
    (∀ {P : Program} {base : Nat} {hi : Nat} {fr : List V} {rows : Rows} {dst : Option Nat} {κ : KV} {x y : Opd}, stmU P base ⟨dst, hi, none, .op (.idxB x y)⟩ ⟨fr, rows⟩ κ = idxBA (x.ev fr) (y.ev fr) κ) ∧
    (∀ {P : Program} {base : Nat} {hi : Nat} {fr : List V} {rows : Rows} {dst : Option Nat} {κ : KV}, stmU P base ⟨dst, hi, none, .op .bad⟩ ⟨fr, rows⟩ κ = False) ∧
    (∀ {P : Program} {base : Nat} {hi : Nat} {fr : List V} {rows : Rows} {dst : Option Nat} {κ : KV} {x : Opd}, stmU P base ⟨dst, hi, none, .op (.rng x)⟩ ⟨fr, rows⟩ κ = (rowAt rows (base + hi) = .un ∧ rngA (base + hi) (x.ev fr) κ)) ∧
    (∀ {P : Program} {base : Nat} {hi : Nat} {fr : List V} {rows : Rows} {dst : Option Nat} {κ : KV} {x : Opd}, stmU P base ⟨dst, hi, none, .op (.nxt x)⟩ ⟨fr, rows⟩ κ = nxtA rows (x.ev fr) κ) ∧
    (∀ {P : Program} {base : Nat} {hi : Nat} {fr : List V} {rows : Rows} {dst : Option Nat} {κ : KV}, stmU P base ⟨dst, hi, none, .op .mkmap⟩ ⟨fr, rows⟩ κ = (rowAt rows (base + hi) = .un ∧ κ (.optr 0 (base + hi) 0 1 0) [(base + hi, .obj (.mp []))])) ∧
    (∀ {P : Program} {base : Nat} {hi : Nat} {fr : List V} {rows : Rows} {dst : Option Nat} {κ : KV} {okf : Bool} {z : D} {m k : Opd}, stmU P base ⟨dst, hi, none, .op (.lkp okf z m k)⟩ ⟨fr, rows⟩ κ = lkpA rows okf z (m.ev fr) (k.ev fr) κ) ∧
    (∀ {P : Program} {base : Nat} {hi : Nat} {fr : List V} {rows : Rows} {dst : Option Nat} {κ : KV} {m k v : Opd}, stmU P base ⟨dst, hi, none, .op (.upd m k v)⟩ ⟨fr, rows⟩ κ = updA rows (m.ev fr) (k.ev fr) (v.ev fr) κ) ∧
    (∀ {κ : KV} {h pos : Nat} {s : List UInt8}, nxtC true h s pos κ = κ (.tup [.d (.bool true), .d (.int .i64 pos), .d (.int .i32 (runeAt s pos).1)]) [(h, .obj (.it s (pos + (runeAt s pos).2)))]) ∧
    (∀ {κ : KV} {h pos : Nat} {s : List UInt8}, nxtC false h s pos κ = κ (.tup [.d (.bool false)]) []) ∧
    (∀ {P : Program} {base : Nat} {hi : Nat} {fr : List V} {rows : Rows} {dst : Option Nat} {κ : KV} {f : Opd} {as : List Opd}, stmU P base ⟨dst, hi, none, .call f as⟩ ⟨fr, rows⟩ κ = callA P (f.ev fr) (evs fr as) rows κ) ∧
    (∀ {P : Program} {b0 : Nat} {Q : AX → St → Prop} {fr : List V} {rows : Rows} {m : Nat} {fl : List Bool} {l : List AStm}, wpC P b0 (.regX m fl l) Q ⟨fr, rows⟩ = runI P rows.length fl l (Q .normal) ⟨fr, rows ++ List.replicate m .un⟩) ∧
    (∀ {fr : List V} {rows : Rows} {t : Nat} {κ : V → Rows → Prop}, retI [.tmp t] κ .ret ⟨fr, rows⟩ = κ (nth fr t) rows) ∧
    (∀ {fr : List V} {rows : Rows} {t : Nat} {κ : V → Rows → Prop}, retI [.tmp t] κ .normal ⟨fr, rows⟩ = κ (nth fr t) rows) ∧
    (∀ {P : Program} {b0 : Nat} {Q : AX → St → Prop} {a b : AC} {S : St}, wpC P b0 (.seq a b) Q S = wpC P b0 a (seqQ P b0 b Q) S) ∧
    (∀ {P : Program} {b0 : Nat} {Q : AX → St → Prop} {b : AC} {S : St}, seqQ P b0 b Q .normal S = wpC P b0 b Q S) ∧
    (∀ {P : Program} {b0 : Nat} {Q : AX → St → Prop} {b : AC} {S : St} {i : Nat}, seqQ P b0 b Q (.exit i) S = Q (.exit i) S) ∧
    (∀ {P : Program} {b0 : Nat} {Q : AX → St → Prop} {b : AC} {S : St}, seqQ P b0 b Q .ret S = Q .ret S) ∧
    (∀ {P : Program} {b0 : Nat} {Q : AX → St → Prop} {fr : List V} {rows : Rows} {m : Nat} {l : List AStm}, wpC P b0 (.reg m l) Q ⟨fr, rows⟩ = runW P rows.length l (Q .normal) ⟨fr, rows ++ List.replicate m .un⟩) ∧
    (∀ {P : Program} {b0 : Nat} {Q : AX → St → Prop} {fr : List V} {rows : Rows} {c : Opd} {a b : AC}, wpC P b0 (.cond c a b) Q ⟨fr, rows⟩ = condA (c.ev fr) P b0 a b Q ⟨fr, rows⟩) ∧
    (∀ {P : Program} {b0 : Nat} {Q : AX → St → Prop} {a b : AC} {S : St}, condA (.d (.bool true)) P b0 a b Q S = wpC P b0 a Q S) ∧
    (∀ {P : Program} {b0 : Nat} {Q : AX → St → Prop} {a b : AC} {S : St}, condA (.d (.bool false)) P b0 a b Q S = wpC P b0 b Q S) ∧
    (∀ {P : Program} {b0 : Nat} {Q : AX → St → Prop} {a b : AC} {S : St}, condA (.d .boolU) P b0 a b Q S = (wpC P b0 a Q S ∧ wpC P b0 b Q S)) ∧
    (∀ {P : Program} {b0 : Nat} {Q : AX → St → Prop} {a : AC} {S : St}, wpC P b0 (.scope a) Q S = wpC P b0 a Q S) ∧
    (∀ {P : Program} {b0 : Nat} {Q : AX → St → Prop} {S : St}, wpC P b0 .label Q S = Q .normal S) ∧
    (∀ {P : Program} {b0 : Nat} {Q : AX → St → Prop} {id : Nat} {a : AC} {S : St}, wpC P b0 (.block id a) Q S = wpC P b0 a (blockQ id Q) S) ∧
    (∀ {Q : AX → St → Prop} {id : Nat} {S : St}, blockQ id Q .normal S = Q .normal S) ∧
    (∀ {Q : AX → St → Prop} {id : Nat} {S : St}, blockQ id Q .ret S = Q .ret S) ∧
    (∀ {Q : AX → St → Prop} {id : Nat} {S : St}, blockQ id Q (.exit id) S = Q .normal S) ∧
    (∀ {Q : AX → St → Prop} {id i : Nat} {S : St} (h : (i == id) = false), blockQ id Q (.exit i) S = Q (.exit i) S) ∧
    (∀ {P : Program} {b0 : Nat} {Q : AX → St → Prop} {id : Nat} {S : St}, wpC P b0 (.exit id) Q S = Q (.exit id) S) ∧
    (∀ {P : Program} {b0 : Nat} {Q : AX → St → Prop} {S : St}, wpC P b0 .ret Q S = Q .ret S) ∧
    (∀ {P : Program} {b0 : Nat} {Q : AX → St → Prop} {S : St}, wpC P b0 .skip Q S = Q .normal S) ∧
    (∀ {P : Program} {b0 : Nat} {Q : AX → St → Prop} {a : AC} {J : Nat → St → Prop} {n i : Nat} {S : St}, loopQ P b0 a Q J n (.exit i) S = Q (.exit i) S) ∧
    (∀ {P : Program} {b0 : Nat} {Q : AX → St → Prop} {a : AC} {J : Nat → St → Prop} {n : Nat} {S : St}, loopQ P b0 a Q J n .ret S = Q .ret S) ∧
    (∀ {rs : List RS} {v : V} {fr : List V} {rows : Rows}, retQ rs v .ret ⟨fr, rows⟩ = retA rs [] fr rows v) ∧
    (∀ {rs : List RS} {v : V} {fr : List V} {rows : Rows}, retQ rs v .normal ⟨fr, rows⟩ = retA rs [] fr rows v) ∧
    (∀ {rows : Rows} {v : V}, Snap rows v .any = True) ∧
    (∀ {rows : Rows} {k k' : IntKind} {a b : Int}, Snap rows (.d (.int k a)) (.d (.int k' b)) = (k = k' ∧ a = b)) ∧
    (∀ {rows : Rows} {a b : Bool}, Snap rows (.d (.bool a)) (.d (.bool b)) = (a = b)) ∧
    (∀ {rows : Rows} {a b : List UInt8}, Snap rows (.d (.str a)) (.d (.str b)) = (a = b)) ∧
    (∀ {rows : Rows} {n : Nat}, Snap rows (.d .nils) (.d (.sl n [])) = True) ∧
    (∀ {rows : Rows} {a b : List V}, Snap rows (.tup a) (.tup b) = snapL rows a b) ∧
    (∀ {rows : Rows} {a b : List V}, Snap rows (.agg a) (.agg b) = snapL rows a b) ∧
    (∀ {κ : KV} {k : IntKind} {a : Int} {b : Int}, binA .add (.d (.int k a)) (.d (.int k b)) κ = κ (.d (.int k (k.wrap (a + b)))) []) ∧
    (∀ {κ : KV} {k : IntKind} {a : Int} {b : Int}, binA .sub (.d (.int k a)) (.d (.int k b)) κ = κ (.d (.int k (k.wrap (a - b)))) []) ∧
    (∀ {κ : KV} {k : IntKind} {a : Int} {b : Int}, binA .mul (.d (.int k a)) (.d (.int k b)) κ = κ (.d (.int k (k.wrap (a * b)))) []) ∧
    (∀ {κ : KV} {k : IntKind} {a : Int} {b : Int}, binA .quo (.d (.int k a)) (.d (.int k b)) κ = (b ≠ 0 ∧ κ (.d (.int k (k.wrap (a.tdiv b)))) [])) ∧
    (∀ {κ : KV} {k : IntKind} {a : Int} {b : Int}, binA .rem (.d (.int k a)) (.d (.int k b)) κ = (b ≠ 0 ∧ κ (.d (.int k (a.tmod b))) [])) ∧
    (∀ {κ : KV} {k : IntKind} {a : Int} {b : Int}, binA .and (.d (.int k a)) (.d (.int k b)) κ = κ (.d (.int k (k.wrap ((BitVec.ofInt k.bits a &&& BitVec.ofInt k.bits b).toNat)))) []) ∧
    (∀ {κ : KV} {k : IntKind} {a : Int} {b : Int}, binA .or (.d (.int k a)) (.d (.int k b)) κ = κ (.d (.int k (k.wrap ((BitVec.ofInt k.bits a ||| BitVec.ofInt k.bits b).toNat)))) []) ∧
    (∀ {κ : KV} {k : IntKind} {a : Int} {b : Int}, binA .xor (.d (.int k a)) (.d (.int k b)) κ = κ (.d (.int k (k.wrap ((BitVec.ofInt k.bits a ^^^ BitVec.ofInt k.bits b).toNat)))) []) ∧
    (∀ {κ : KV} {k : IntKind} {a : Int} {b : Int}, binA .andNot (.d (.int k a)) (.d (.int k b)) κ = κ (.d (.int k (k.wrap ((BitVec.ofInt k.bits a &&& ~~~ BitVec.ofInt k.bits b).toNat)))) []) ∧
    (∀ {κ : KV} {k : IntKind} {a : Int} {b : Int}, binA .eql (.d (.int k a)) (.d (.int k b)) κ = κ (.d (.bool (decide (a = b)))) []) ∧
    (∀ {κ : KV} {k : IntKind} {a : Int} {b : Int}, binA .neq (.d (.int k a)) (.d (.int k b)) κ = κ (.d (.bool (decide (a ≠ b)))) []) ∧
    (∀ {κ : KV} {k : IntKind} {a : Int} {b : Int}, binA .lss (.d (.int k a)) (.d (.int k b)) κ = κ (.d (.bool (decide (a < b)))) []) ∧
    (∀ {κ : KV} {k : IntKind} {a : Int} {b : Int}, binA .leq (.d (.int k a)) (.d (.int k b)) κ = κ (.d (.bool (decide (a ≤ b)))) []) ∧
    (∀ {κ : KV} {k : IntKind} {a : Int} {b : Int}, binA .gtr (.d (.int k a)) (.d (.int k b)) κ = κ (.d (.bool (decide (b < a)))) []) ∧
    (∀ {κ : KV} {k : IntKind} {a : Int} {b : Int}, binA .geq (.d (.int k a)) (.d (.int k b)) κ = κ (.d (.bool (decide (b ≤ a)))) []) ∧
    (∀ {κ : KV} {k : IntKind} {k' : IntKind} {a : Int} {b : Int}, binA .shl (.d (.int k a)) (.d (.int k' b)) κ = (0 ≤ b ∧ κ (.d (.int k (k.wrap (a * 2 ^ (min b.toNat k.bits))))) [])) ∧
    (∀ {κ : KV} {k : IntKind} {k' : IntKind} {a : Int} {b : Int}, binA .shr (.d (.int k a)) (.d (.int k' b)) κ = (0 ≤ b ∧ κ (.d (.int k (a / (2 ^ (min b.toNat k.bits))))) [])) ∧
    (∀ {κ : KV} {s : List UInt8} {t : List UInt8}, binA .add (.d (.str s)) (.d (.str t)) κ = (s.length + t.length ≤ 9223372036854775807 ∧ κ (.d (.str (s ++ t))) [])) ∧
    (∀ {κ : KV} {s : List UInt8} {t : List UInt8}, binA .eql (.d (.str s)) (.d (.str t)) κ = κ (.d (.bool (decide (s = t)))) []) ∧
    (∀ {κ : KV} {s : List UInt8} {t : List UInt8}, binA .neq (.d (.str s)) (.d (.str t)) κ = κ (.d (.bool (decide (s ≠ t)))) []) ∧
    (∀ {κ : KV} {s : List UInt8} {t : List UInt8}, binA .lss (.d (.str s)) (.d (.str t)) κ = κ (.d (.bool (Op.bytesLess s t))) []) ∧
    (∀ {κ : KV} {s : List UInt8} {t : List UInt8}, binA .leq (.d (.str s)) (.d (.str t)) κ = κ (.d (.bool (Op.bytesLess s t || decide (s = t)))) []) ∧
    (∀ {κ : KV} {s : List UInt8} {t : List UInt8}, binA .gtr (.d (.str s)) (.d (.str t)) κ = κ (.d (.bool (!(Op.bytesLess s t || decide (s = t))))) []) ∧
    (∀ {κ : KV} {s : List UInt8} {t : List UInt8}, binA .geq (.d (.str s)) (.d (.str t)) κ = κ (.d (.bool (!Op.bytesLess s t))) []) ∧
    (∀ {κ : KV} {k : IntKind} {a : Int}, unA .neg (.d (.int k a)) κ = κ (.d (.int k (k.wrap (0 - a)))) []) ∧
    (∀ {κ : KV} {k : IntKind} {a : Int}, unA .xor (.d (.int k a)) κ = κ (.d (.int k (k.wrap ((BitVec.ofInt k.bits (if k.signed then -1 else k.max) ^^^ BitVec.ofInt k.bits a).toNat)))) []) ∧
    (∀ {κ : KV} {p : Bool}, unA .not (.d (.bool p)) κ = κ (.d (.bool (!p))) []) ∧
    (∀ {cs : List V} {sz : Nat} {f : List V → Prop}, cellsW (.agg cs) sz f = (cs.length = sz ∧ cs.all oneV = true ∧ f cs)) ∧
    (∀ {x : D} {sz : Nat} {f : List V → Prop}, cellsW (.d x) sz f = (sz = 1 ∧ f [.d x])) ∧
    (∀ {a b c d e sz : Nat} {f : List V → Prop}, cellsW (.osl a b c d e) sz f = (sz = 1 ∧ f [.osl a b c d e])) ∧
    (∀ {a b c d e sz : Nat} {f : List V → Prop}, cellsW (.optr a b c d e) sz f = (sz = 1 ∧ f [.optr a b c d e])) ∧
    (∀ {g : Fn} {a b : List V} {sz : Nat} {f : List V → Prop}, cellsW (.fn g a b) sz f = (sz = 1 ∧ f [.fn g a b])) ∧
    (∀ {fr : List V} {i : Nat}, Opd.ev fr (.t i) = nth fr i) ∧
    (∀ {fr : List V} {v : V}, Opd.ev fr (.k v) = v) ∧
    (∀ {x : V} {l : List V}, nth (x :: l) 0 = x) ∧
    (∀ {x : V} {l : List V} {n : Nat}, nth (x :: l) (n + 1) = nth l n) ∧
    (∀ {x v : V} {l : List V}, setN (x :: l) 0 v = v :: l) ∧
    (∀ {x v : V} {l : List V} {n : Nat}, setN (x :: l) (n + 1) v = x :: setN l n v) ∧
    (∀ {fr : List V} {d : Nat} {v : V}, putV fr (some d) v = setN fr d v) ∧
    (∀ {fr : List V} {v : V}, putV fr none v = fr) ∧
    (∀ {rows : Rows}, setRows rows [] = rows) ∧
    (∀ {rows : Rows} {h : Nat} {r : RowS} {l : List (Nat × RowS)}, setRows rows ((h, r) :: l) = setRows (setAt rows h r) l) ∧
    (∀ {x r : RowS} {l : Rows}, setAt (x :: l) 0 r = r :: l) ∧
    (∀ {x r : RowS} {l : Rows} {n : Nat}, setAt (x :: l) (n + 1) r = x :: setAt l n r) ∧
    (∀ {b0 : Nat} {Q : AX → St → Prop} {σ : Type} {F : σ → St} {inv : σ → Prop} {mu : σ → Nat} {s : σ} {i : Nat} {S : St}, loopS b0 Q F inv mu s (.exit i) S = Q (.exit i) S) ∧
    (∀ {b0 : Nat} {Q : AX → St → Prop} {σ : Type} {F : σ → St} {inv : σ → Prop} {mu : σ → Nat} {s : σ} {S : St}, loopS b0 Q F inv mu s .ret S = Q .ret S) :=
  ⟨r_nil, r_cons, r_k, q_nil, q_cons, q_k, d_nil, d_cons, i_nil, i_t, i_g, i_f, i_e, i_k, i_j, r_mov, r_guard, g_tt, g_ff, g_tf, g_ft, g_un, r_pick, r_bin, r_un, r_eqB, r_eqS, r_isNil, r_conv, r_same, r_nilck, r_s2b, r_b2s, r_alloc, r_box, r_build, r_buildSl, r_load, r_store, r_mksl, r_slice, r_fldA, r_fld, r_idxA, r_idx, r_idxS, r_ext, r_mkfn, r_len, r_append, r_copy, r_clr, r_mn, r_mx, r_idxB, r_bad, r_rng, r_nxt, r_mkmap, r_lkp, r_upd, nxt_t, nxt_f, r_call, c_regX, ri_r, ri_n, c_seq, seq_n, seq_e, seq_r, c_reg, c_cond, cond_t, cond_f, cond_u, c_scope, c_label, c_block, block_n, block_r, block_e, block_o, c_exit, c_ret, c_skip, loop_e, loop_r, ret_r, ret_n, sn_any, sn_int, sn_bool, sn_str, sn_nils, sn_tup, sn_agg, b_add, b_sub, b_mul, b_quo, b_rem, b_and, b_or, b_xor, b_andNot, b_eql, b_neq, b_lss, b_leq, b_gtr, b_geq, b_shl, b_shr, s_add, s_eql, s_neq, s_lss, s_leq, s_gtr, s_geq, u_neg, u_xor, u_not, cells_agg, cells_d, cells_osl, cells_optr, cells_fn, ev_t, ev_k, nth_z, nth_s, set_z, set_s, put_s, put_n, sr_n, sr_c, sa_z, sa_s, ls_e, ls_r⟩
end Go.Vx
