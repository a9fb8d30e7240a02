/- Proved: rules of a compiled form of the code, sound for the model. Conditions: none but those that each lemma states. -/
import Derived.Calls
import Derived.Laws.World
import Derived.Laws.Sem
import Derived.Laws.RangeString
import Derived.Laws.RangeAny
import Derived.Lib.Bytealg
import Derived.Laws.CopyRow
import Derived.Laws.MakeOwn
import Derived.Laws.Strings
import Derived.Lib.Strings
set_option linter.unusedSectionVars false
set_option linter.unusedSimpArgs false
set_option linter.unusedVariables false
namespace Go
theorem ai{a b:Prop}(x:a)(y:b):a/\b:=⟨x,y⟩
theorem om{X:Prop}(h:X:=by omega):X:=h
theorem sm{X:Prop}(h:X:=by simp):X:=h
theorem so{X:Prop}(h:X:=by simp;omega):X:=h
theorem dc{X:Prop}(h:X:=by decide):X:=h
theorem aa:type_of% @Option.map_eq_some_iff:=@Option.map_eq_some_iff
theorem ab:type_of% @Option.bind_eq_some_iff:=@Option.bind_eq_some_iff
theorem ad:type_of% @List.getElem?_eq_some_iff:=@List.getElem?_eq_some_iff
theorem ae:type_of% @List.getElem?_eq_getElem:=@List.getElem?_eq_getElem
theorem af:type_of% @List.mem_of_getElem?:=@List.mem_of_getElem?
theorem ah:type_of% @decide_not:=@decide_not
theorem aj:type_of% @decide_eq_true_eq:=@decide_eq_true_eq
theorem ak:type_of% @decide_eq_false_iff_not:=@decide_eq_false_iff_not
theorem al:type_of% @List.take_of_length_le:=@List.take_of_length_le
theorem an:type_of% @List.length_map:=@List.length_map
theorem aq:type_of% @Nat.le_refl:=@Nat.le_refl
theorem ar:type_of% @List.getElem?_map:=@List.getElem?_map
theorem au:type_of% @Array.getD_eq_getD_getElem?:=@Array.getD_eq_getD_getElem?
theorem av:type_of% @Bool.and_eq_true:=@Bool.and_eq_true
theorem aw:type_of% @List.mem_map:=@List.mem_map
theorem az:type_of% @List.length_append:=@List.length_append
theorem aA:type_of% @List.getElem?_eq_none:=@List.getElem?_eq_none
theorem aG:type_of% @List.all_eq_true:=@List.all_eq_true
theorem aH:type_of% @List.getElem?_append_left:=@List.getElem?_append_left
theorem aJ:type_of% @List.getElem?_append_right:=@List.getElem?_append_right
theorem aP:type_of% @List.mem_cons:=@List.mem_cons
theorem aQ:type_of% @List.eq_nil_of_length_eq_zero:=@List.eq_nil_of_length_eq_zero
theorem aR:type_of% @List.drop_eq_nil_of_le:=@List.drop_eq_nil_of_le
theorem aU:type_of% @List.mem_append:=@List.mem_append
end Go
namespace Go.Vx
inductive D where
 |int (k:IntKind) (n:Int)
 |bool (b:Bool)
 |str (s:List UInt8)
 |ke
 |bm
 |kY
 |sl (sz:Nat) (es:List (List D))
 |ptr (cs:List D)
 |yr
 |mp (es:List (List UInt8×Int))
 |BZ (sz:Nat) (es:List (List D))
 deriving Inhabited
inductive V where
 |any
 |d (x:D)
 |cl (sz h n off len:Nat)
 |aY (sz h n i off:Nat)
 |agg (cs:List V)
 |cm (vs:List V)
 |fn (f:Fn) (first cap:List V)
  |gV (T:TypeId) (u:Value)
 deriving Inhabited
inductive GO where
 |it (s:List UInt8) (pos:Nat)
 |mp (es:List (List UInt8×D))
  |mq (n:Nat) (es:List (List Int×D))
 |loop (l:Nat) (L:Loop)
 deriving Inhabited
inductive bd where
 |un
 |dead
 |live (sz:Nat) (es:List (List V))
 |obj (o:GO)
 deriving Inhabited
def bd.QI:bd->Prop
 | .live _ _=>True
 | .obj _=>True
 | .un=>False
 | .dead=>False
def dv:D->Value
 | .int k n=>.int k n
 | .bool b=>.bool b
 | .str s=>.string ⟨s.toArray⟩
 |_=>.tuple #[]
def fy:D->Bool
 | .int _ _=>true
 | .bool _=>true
 | .str _=>true
 |_=>false
def kq(ns:List Int):Value:=.agg (ns.map fun n=>Value.int .i64 n).toArray
def CX(T:TypeId)(u:Value):Value:=match u with
 | .nilIface=>.nilIface
 |u=>.iface T u
def Fq(w:World)(b:Nat):GO->Prop
 | .it s pos=>w.heap[b]? =some (.stringIter ⟨s.toArray⟩ pos)
 | .mp es=>∃ents clock,w.heap[b]? =some (.map ents clock)/\ents.toList.map (fun e=>(e.key,e.val))=es.map (fun p=>(Value.string ⟨p.1.toArray⟩,dv p.2))/\∀p∈es,fy p.2=true
 | .mq n es=>∃ents clock,w.heap[b]? =some (.map ents clock)/\ents.toList.map (fun e=>(e.key,e.val))=es.map (fun p=>(kq p.1,dv p.2))/\∀p∈es,p.1.length=n/\fy p.2=true
 | .loop l L=>b=l/\w.heap[b]? =some (.loop L)
theorem Fq.lt{w:World}{b:Nat}{o:GO}(h:Fq w b o):b<w.heap.size:=by
 cases o with
 |it s pos=>exact(Array.getElem?_eq_some_iff.1 h).1
 |mp es=>obtain⟨_,_,h,_⟩:=h;exact(Array.getElem?_eq_some_iff.1 h).1
 |mq n es=>obtain⟨_,_,h,_⟩:=h;exact(Array.getElem?_eq_some_iff.1 h).1
 |loop l L=>exact(Array.getElem?_eq_some_iff.1 h.2).1
theorem Fq.same{w w':World}{b:Nat}{o:GO}(h:Fq w b o)(e:w'.heap[b]? =w.heap[b]?):Fq w' b o:=by
 cases o with
 |it s pos=>exact e.trans h
 |mp es=>obtain⟨x,y,h,h2⟩:=h;exact⟨x,y,e.trans h,h2⟩
 |mq n es=>obtain⟨x,y,h,h2⟩:=h;exact⟨x,y,e.trans h,h2⟩
 |loop l L=>exact⟨h.1,e.trans h.2⟩
abbrev Rows:=List bd
structure Cx where
 ρ:Nat->Option Nat
 I:Nat->Prop
 rows:Rows
 w:World
inductive dV(I:Nat->Prop)(w:World):Value->D->Prop where
 |int (k:IntKind) (n:Int):dV I w (.int k n) (.int k n)
 |bool (b:Bool):dV I w (.bool b) (.bool b)
 |ke (b:Bool):dV I w (.bool b) .ke
 |str (s:List UInt8):dV I w (.string ⟨s.toArray⟩) (.str s)
 |bm:dV I w (.slice none 0 0) .bm
 |kY:dV I w (.pointer none) .kY
 |lT (sz:Nat):dV I w (.slice none 0 0) (.sl sz [])
 |kK (sz:Nat) (a:Addr) (cap:Nat):dV I w (.slice (some a) 0 cap) (.sl sz [])
 |sl (sz:Nat) (es:List (List D)) (b off cap:Nat) (u:Nat->Nat->Value) (hcap:es.length<=cap) (hI:I b) (hsz:∀e∈es,e.length=sz) (hcell:∀i e j v,es[i]? =some e->e[j]? =some v->w.cell? ⟨b,off+(i*sz+j),none⟩=some (u i j)) (hrep:∀i e j v,es[i]? =some e->e[j]? =some v->dV I w (u i j) v):dV I w (.slice (some ⟨b,off,none⟩) es.length cap) (.sl sz es)
 |ptr (cs:List D) (b off:Nat) (u:Nat->Value) (hI:I b) (hcell:∀j v,cs[j]? =some v->w.cell? ⟨b,off+j,none⟩=some (u j)) (hrep:∀j v,cs[j]? =some v->dV I w (u j) v):dV I w (.pointer (some ⟨b,off,none⟩)) (.ptr cs)
 |yr (v:Value) (hv:v.oneCell'=true):dV I w v .yr
 |mp (es:List (List UInt8×Int)) (b:Nat) (hI:I b) (ents:Array MapEntry) (clock:Nat) (hm:w.heap[b]? =some (.map ents clock)) (he:ents.toList.map (fun e=>(e.key,e.val))=es.map (fun p=>(Value.string ⟨p.1.toArray⟩,Value.int .i64 p.2))):dV I w (.map (some b)) (.mp es)
 |BZ (v:Value) (sz:Nat) (es:List (List D)) (hr:dV I w v (.sl sz es)) (hc:∃a n,v=.slice a n n):dV I w v (.BZ sz es)
def xy:List (List UInt8):=[[99,108,97,115,115],[101,120,116,101,110,100,115],[114,97,110,100],[114,97,110,100,99],[115,116,97,116,101],[99,111,110,115,116,114,97,105,110,116],[115,111,102,116],[100,105,115,116],[105,102],[101,108,115,101],[101,97,99,104],[105,110],[115,111,108,118,101],[98,101,102,111,114,101],[105,110,115,105,100,101],[112,114,111,112,101,114,116,121],[115,101,113],[97,110,100],[111,114],[110,111,116],[115,101,116],[104,111,108,100],[112,108,97,105,110],[114,101,112,101,97,116]]
def M0:D:=.sl 1 (xy.map fun s=>[.str s])
def GW(I:Nat->Prop)(w:World):Prop:=dV I w (.pointer (some ⟨0,0,none⟩)) (.ptr [M0])
def fh:V->Bool
 | .any| .agg _| .cm _| .gV _ _=>false
 |_=>true
def kI(rows:Rows)(h n:Nat):Prop:=rows[h]? =some .dead\/∃sz es,rows[h]? =some (.live sz es)/\n<es.length
inductive b7(c:Cx):Value->V->Prop where
 |any (v:Value):b7 c v .any
 |d (v:Value) (x:D) (h:dV c.I c.w v x):b7 c v (.d x)
 |cl (sz h n off len cap b:Nat) (o:Nat) (es:List (List V)) (arr:Array Value) (ty:TypeId) (fz:Nat×Nat) (hrow:c.rows[h]? =some (.live sz es)) (hn:es.length=n) (hρ:c.ρ h=some b) (hb:c.w.heap[b]? =some (.cells arr ty fz)) (ho:o=off*sz\/cap=0) (hcap:(off+cap)*sz<=arr.size) (hlc:len<=cap) (hlen:off+len<=n):b7 c (.slice (some ⟨b,o,none⟩) len cap) (.cl sz h n off len)
 |c8 (sz h:Nat) (hrow:c.rows[h]? =some (.live sz [])) (hρ:c.ρ h=none):b7 c (.slice none 0 0) (.cl sz h 0 0 0)
 |cW (v:Value) (sz h n off len:Nat) (hv:v.oneCell'=true) (hs:kI c.rows h n):b7 c v (.cl sz h n off len)
 |aY (sz h n i off b:Nat) (es:List (List V)) (hrow:c.rows[h]? =some (.live sz es)) (hn:es.length=n) (hρ:c.ρ h=some b):b7 c (.pointer (some ⟨b,i*sz+off,none⟩)) (.aY sz h n i off)
 |cD (v:Value) (sz h n i off:Nat) (hv:v.oneCell'=true) (hs:kI c.rows h n):b7 c v (.aY sz h n i off)
 |oh (v:Value) (h k b:Nat) (o:GO) (hrow:c.rows[h]? =some (.obj o)) (hρ:c.ρ h=some b) (hv:v.oneCell'=true) (h0:k=0->v=.pointer (some ⟨b,0,none⟩)) (h1:k=1->v=.map (some b)):b7 c v (.aY 0 h 0 k 0)
 |agg (vs:Array Value) (cs:List V) (hlen:vs.size=cs.length) (hrep:∀(j:Nat) (v:V) (x:Value),cs[j]? =some v->vs[j]? =some x->b7 c x v):b7 c (.agg vs) (.agg cs)
 |cm (vs:Array Value) (cs:List V) (hlen:vs.size=cs.length) (hrep:∀(j:Nat) (v:V) (x:Value),cs[j]? =some v->vs[j]? =some x->b7 c x v):b7 c (.tuple vs) (.cm cs)
 |fn (f:Fn) (fs cps:Array Value) (first cap:List V) (hf:fs.size=first.length) (hc:cps.size=cap.length) (hfr:∀(j:Nat) (v:V) (x:Value),first[j]? =some v->fs[j]? =some x->b7 c x v) (hcr:∀(j:Nat) (v:V) (x:Value),cap[j]? =some v->cps[j]? =some x->b7 c x v):b7 c (.func f fs cps) (.fn f first cap)
 |gV (v:Value) (T:TypeId) (u:Value) (h:v=CX T u):b7 c v (.gV T u)
def fC(c:Cx)(sz:Nat)(es:List (List V))(arr:Array Value):Prop:=(∀e∈es,e.length=sz/\∀v∈e,fh v=true)/\es.length*sz<=arr.size/\∀(i:Nat) (e:List V) (j:Nat) (v:V),es[i]? =some e->e[j]? =some v->∃x,arr[i*sz+j]? =some x/\b7 c x v
structure Pz(c:Cx):Prop where
 xS:∀(h:Nat) (o:GO),c.rows[h]? =some (bd.obj o)->∃b,c.ρ h=some b/\Fq c.w b o
 pz:GW c.I c.w
structure Ok(c:Cx):Prop where
 inj:∀h h' b,c.ρ h=some b->c.ρ h'=some b->h=h'
 own:∀h b,c.ρ h=some b->b<c.w.heap.size/\¬c.I b/\∃r,c.rows[h]? =some r/\r.QI
 cont:∀h b sz es,c.ρ h=some b->c.rows[h]? =some (.live sz es)->∃arr ty fz,c.w.heap[b]? =some (.cells arr ty fz)/\(∀i,i<arr.size->¬(fz.1<=i/\i<fz.2))/\fC c sz es arr
 je:∀h sz es,c.ρ h=none->c.rows[h]? =some (.live sz es)->es=[]
 jP:∀b,c.I b->b<c.w.heap.size
 g:Pz c
def bK(c0 c:Cx)(h:Nat):Prop:=match c0.rows[h]? with
 |none=>True
 |some .un=>∃r,c.rows[h]? =some r
 |some .dead=>c.rows[h]? =some .dead
 |some (.obj _)=>c.rows[h]? =some .dead\/((∃o',c.rows[h]? =some (bd.obj o'))/\c.ρ h=c0.ρ h)
 |some (.live sz es)=>c.rows[h]? =some .dead\/∃es',c.rows[h]? =some (.live sz es')/\(es.length<es'.length\/(es.length=es'.length/\c.ρ h=c0.ρ h/\∀b arr ty fz,c0.ρ h=some b->c0.w.heap[b]? =some (.cells arr ty fz)->∃arr' fz',c.w.heap[b]? =some (.cells arr' ty fz')/\arr'.size=arr.size))
structure Ext(c0 c:Cx):Prop where
 os:c.w.os=c0.w.os
 tape:c.w.tape=c0.w.tape
 output:c.w.output=c0.w.output
 size:c0.w.heap.size<=c.w.heap.size
 l9:∀b,b<c0.w.heap.size->(∀h,c0.ρ h≠some b)->c.w.heap[b]? =c0.w.heap[b]?
 jP:∀b,c0.I b->c.I b
 qf:∀b,c.I b->c0.I b\/c0.w.heap.size<=b\/∃h,c0.ρ h=some b
 new:∀h b,c.ρ h=some b->c0.ρ h=some b\/c0.w.heap.size<=b
 rows:∀h,bK c0 c h
theorem dV.mono{I I':Nat->Prop}{w w':World}(hI:∀b,I b->I' b)(hb:∀b,I b->w'.heap[b]? =w.heap[b]?){v:Value}{x:D}(h:dV I w v x):dV I' w' v x:=by
 have hc:∀b,I b->∀o,w'.cell? ⟨b,o,none⟩=w.cell? ⟨b,o,none⟩:=fun b h o=>by simp[World.cell?,hb b h]
 induction h with
 |int k n=>exact .int k n
 |bool b=>exact .bool b
 |ke b=>exact .ke b
 |str s=>exact .str s
 |bm=>exact .bm
 |kY=>exact .kY
 |lT sz=>exact .lT sz
 |kK sz a cap=>exact .kK sz a cap
 |sl sz es b off cap u hcap hIb hsz hcell hrep ih=>exact .sl sz es b off cap u hcap (hI b hIb) hsz (fun i e j v h1 h2=>(hc b hIb _).trans (hcell i e j v h1 h2)) ih
 |ptr cs b off u hIb hcell hrep ih=>exact .ptr cs b off u (hI b hIb) (fun j v h1=>(hc b hIb _).trans (hcell j v h1)) ih
 |yr v hv=>exact .yr v hv
 |mp es b hIb ents clock hm he=>exact .mp es b (hI b hIb) ents clock ((hb b hIb).trans hm) he
 |BZ v sz es hr hc ih=>exact .BZ v sz es ih hc
theorem Ext.oG{c0 c:Cx}(h:Ext c0 c)(ok:Ok c0)(b:Nat)(hb:c0.I b):c.w.heap[b]? =c0.w.heap[b]? :=h.l9 b (ok.jP b hb) fun _ hh=>(ok.own _ _ hh).2.1 hb
theorem Pz.step{c0 c:Cx}(ok:Ok c0)(hx:Ext c0 c)(hr:∀(h:Nat) (o:GO),c.rows[h]? =some (bd.obj o)->c0.rows[h]? =some (bd.obj o)/\c.ρ h=c0.ρ h/\∀b,c0.ρ h=some b->c.w.heap[b]? =c0.w.heap[b]?):Pz c where
 xS:=fun h o hh=>by obtain⟨h1,h2,h4⟩:=hr h o hh;obtain⟨b,h3,h5⟩:=ok.g.xS h o h1;exact⟨b,h2.trans h3,h5.same (h4 b h3)⟩
 pz:=ok.g.pz.mono hx.jP (hx.oG ok)
theorem kI.mono{c0 c:Cx}(hx:Ext c0 c){h n:Nat}(hs:kI c0.rows h n):kI c.rows h n:=by
 have hr:=hx.rows h;unfold bK at hr;rcases hs with hs|⟨sz,es,hs,hn⟩
 ·rw[hs]at hr;exact .inl hr
 ·rw[hs]at hr;rcases hr with hr|⟨es',hr,hl|⟨hl,_⟩⟩
  ·exact .inl hr
  ·exact .inr ⟨sz,es',hr,om⟩
  ·exact .inr ⟨sz,es',hr,om⟩
theorem b7.mono{c0 c:Cx}(hx:Ext c0 c)(ok:Ok c0){v:Value}{x:V}(h:b7 c0 v x):b7 c v x:=by
 induction h with
 |any v=>exact .any v
 |d v x h=>exact .d v x (h.mono hx.jP (hx.oG ok))
 |cl sz h n off len cap b o es arr ty fz hrow hn hρ hb ho hcap hlc hlen=>
  have hr:=hx.rows h;unfold bK at hr;rw[hrow]at hr;rcases hr with hr|⟨es',hr,hl|⟨hl,hρ',hbl⟩⟩
  ·exact .cW _ _ _ _ _ _ rfl (.inl hr)
  ·exact .cW _ _ _ _ _ _ rfl (.inr ⟨sz,es',hr,om⟩)
  ·obtain⟨arr',fz',hb',hs⟩:=hbl b arr ty fz hρ hb;exact .cl sz h n off len cap b o es' arr' ty fz' hr om (hρ'.trans hρ) hb' ho (by rw[hs];exact hcap) hlc hlen
 |c8 sz h hrow hρ=>
  have hr:=hx.rows h;unfold bK at hr;rw[hrow]at hr;rcases hr with hr|⟨es',hr,hl|⟨hl,hρ',hbl⟩⟩
  ·exact .cW _ _ _ _ _ _ rfl (.inl hr)
  ·exact .cW _ _ _ _ _ _ rfl (.inr ⟨sz,es',hr,by simpa using hl⟩)
  ·have:es'=[]:=aQ (by simpa using hl.symm);subst this;exact .c8 sz h hr (hρ'.trans hρ)
 |cW v sz h n off len hv hs=>exact .cW v sz h n off len hv (hs.mono hx)
 |aY sz h n i off b es hrow hn hρ=>
  have hr:=hx.rows h;unfold bK at hr;rw[hrow]at hr;rcases hr with hr|⟨es',hr,hl|⟨hl,hρ',hbl⟩⟩
  ·exact .cD _ _ _ _ _ _ rfl (.inl hr)
  ·exact .cD _ _ _ _ _ _ rfl (.inr ⟨sz,es',hr,om⟩)
  ·exact .aY sz h n i off b es' hr om (hρ'.trans hρ)
 |cD v sz h n i off hv hs=>exact .cD v sz h n i off hv (hs.mono hx)
 |oh v h k b o hrow hρ hv h0 h1=>
  have hr:=hx.rows h;unfold bK at hr;rw[hrow]at hr;rcases hr with hr|⟨⟨o',hr⟩,hρ'⟩
  ·exact .cD _ _ _ _ _ _ hv (.inl hr)
  ·exact .oh v h k b o' hr (hρ'.trans hρ) hv h0 h1
 |agg vs cs hlen hrep ih=>exact .agg vs cs hlen ih
 |cm vs cs hlen hrep ih=>exact .cm vs cs hlen ih
 |fn f fs cps first cap hf hc hfr hcr ih1 ih2=>exact .fn f fs cps first cap hf hc ih1 ih2
 |gV v T u h=>exact .gV v T u h
theorem b7.one{c:Cx}{u:Value}{v:V}(h:b7 c u v)(hv:fh v=true):u.oneCell'=true:=by
 cases h with
 |d _ _ h=>cases h<;>first|rfl|assumption|(rename_i hc;obtain⟨_,_,rfl⟩:=hc;rfl)
 |cl=>rfl
 |c8=>rfl
 |cW _ _ _ _ _ _ hv'=>exact hv'
 |aY=>rfl
 |cD _ _ _ _ _ _ hv'=>exact hv'
 |oh _ _ _ _ _ _ _ hv'=>exact hv'
 |fn=>rfl
 |any=>simp[fh]at hv
 |agg=>simp[fh]at hv
 |cm=>simp[fh]at hv
 |gV=>simp[fh]at hv
theorem fC.mono{c0 c:Cx}(hx:Ext c0 c)(ok:Ok c0){sz:Nat}{es:List (List V)}{arr:Array Value}(h:fC c0 sz es arr):fC c sz es arr:=⟨h.1,h.2.1,fun i e j v h1 h2=>let ⟨x,hx1,hx2⟩:=h.2.2 i e j v h1 h2;⟨x,hx1,hx2.mono hx ok⟩⟩
theorem bK.refl(c:Cx)(h:Nat):bK c c h:=by
 unfold bK;split
 ·trivial
 ·rename_i hh;exact⟨_,hh⟩
 ·assumption
 ·rename_i hh;exact .inr ⟨⟨_,hh⟩,rfl⟩
 ·rename_i hh;exact .inr ⟨_,hh,.inr ⟨rfl,rfl,fun b arr ty fz _ hb=>⟨arr,fz,hb,rfl⟩⟩⟩
theorem Ext.refl(c:Cx):Ext c c:=⟨rfl,rfl,rfl,aq _,fun _ _ _=>rfl,fun _ h=>h,fun _ h=>.inl h,fun _ _ h=>.inl h,bK.refl c⟩
theorem bK.trans{a b c:Cx}{h:Nat}(hab:bK a b h)(hbc:bK b c h):bK a c h:=by
 unfold bK at hab|-;split
 ·trivial
 ·rename_i ha;rw[ha]at hab;obtain⟨r,hr⟩:=hab;unfold bK at hbc;rw[hr]at hbc;cases r with
  |un=>exact hbc
  |dead=>exact⟨_,hbc⟩
  |live sz es=>
   rcases hbc with hbc|⟨es',hbc,_⟩
   ·exact⟨_,hbc⟩
   ·exact⟨_,hbc⟩
  |obj o=>
   rcases hbc with hbc|⟨⟨es',hbc⟩,_⟩
   ·exact⟨_,hbc⟩
   ·exact⟨_,hbc⟩
 ·rename_i ha;rw[ha]at hab;unfold bK at hbc;simp only at hab;rw[hab]at hbc;exact hbc
 ·rename_i o ha;rw[ha]at hab;unfold bK at hbc;rcases hab with hab|⟨⟨o1,hab⟩,hρ1⟩
  ·rw[hab]at hbc;exact .inl hbc
  ·rw[hab]at hbc;rcases hbc with hbc|⟨hbc,hρ2⟩
   ·exact .inl hbc
   ·exact .inr ⟨hbc,hρ2.trans hρ1⟩
 ·rename_i sz es ha;rw[ha]at hab;unfold bK at hbc;rcases hab with hab|⟨es1,hab,h1⟩
  ·rw[hab]at hbc;exact .inl hbc
  ·rw[hab]at hbc;rcases hbc with hbc|⟨es2,hbc,h2⟩
   ·exact .inl hbc
   ·refine .inr ⟨es2,hbc,?_⟩;rcases h1 with h1|⟨h1,r1,b1⟩
    ·rcases h2 with h2|⟨h2,_⟩
     ·exact .inl om
     ·exact .inl om
    ·rcases h2 with h2|⟨h2,r2,b2⟩
     ·exact .inl om
     ·refine .inr ⟨om,r2.trans r1,fun bl arr ty fz hρ hb=>?_⟩;obtain⟨arr',fz',hb',hs'⟩:=b1 bl arr ty fz hρ hb;obtain⟨arr2,fz2,hb2,hs2⟩:=b2 bl arr' ty fz' (r1.trans hρ) hb';exact⟨arr2,fz2,hb2,hs2.trans hs'⟩
theorem Ext.trans{a b c:Cx}(h1:Ext a b)(h2:Ext b c):Ext a c where
 os:=h2.os.trans h1.os
 tape:=h2.tape.trans h1.tape
 output:=h2.output.trans h1.output
 size:=Nat.le_trans h1.size h2.size
 l9:=fun bl hb hno=>(h2.l9 bl (Nat.lt_of_lt_of_le hb h1.size) (fun h hh=>by
  rcases h1.new h bl hh with hh|hh
  ·exact hno h hh
  ·omega)).trans (h1.l9 bl hb hno)
 jP:=fun bl h=>h2.jP bl (h1.jP bl h)
 qf:=fun bl h=>by
  rcases h2.qf bl h with h|h|⟨hh,h⟩
  ·exact h1.qf bl h
  ·exact .inr (.inl (Nat.le_trans h1.size h))
  ·rcases h1.new hh bl h with h|h
   ·exact .inr (.inr ⟨hh,h⟩)
   ·exact .inr (.inl h)
 new:=fun h bl hh=>by
  rcases h2.new h bl hh with hh|hh
  ·exact h1.new h bl hh
  ·exact .inr (Nat.le_trans h1.size hh)
 rows:=fun h=>(h1.rows h).trans (h2.rows h)
inductive bw where
 |t (i:Nat)
 |k (v:V)
 deriving Inhabited
def nth:List V->Nat->V
 |[],_=>.any
 |x::_,0=>x
 |_::l,n+1=>nth l n
def jS:List V->Nat->V->List V
 |[],_,_=>[]
 |_::l,0,v=>v::l
 |x::l,n+1,v=>x::jS l n v
def bw.ev(fr:List V):bw->V
 | .t i=>nth fr i
 | .k v=>v
inductive iE where
 |gC (x:bw)
 |pick (c a b:bw)
 |g7 (x:bw)
 |bin (op:BinOp) (x y:bw)
 |Ft (neg:Bool) (x y:bw)
 |FK (neg:Bool) (ks:List Nat) (x y:bw)
 |isNil (neg:Bool) (x y:bw)
 |un (op:UnOp) (x:bw)
 |conv (k:IntKind) (x:bw)
 |same (x:bw)
 |HI (x:bw)
 |BW (x:bw)
 |alloc (zero:List D)
 |box (sz:Nat) (x:bw)
 |build (zero:List D) (parts:List (Nat×Nat×bw))
 |b5 (sz len:Nat) (zero:List D) (parts:List (Nat×bw))
 |load (agg:Bool) (sz:Nat) (a:bw)
 |store (sz:Nat) (a x:bw)
 |jH (sz bytes:Nat) (zero:List D) (l c:bw)
 |slice (sz:Nat) (x:bw) (lo hi:Option bw)
 |nf (off:Nat) (x:bw)
 |H8 (off sz:Nat) (agg:Bool) (x:bw)
 |fD (sz:Nat) (arr:Option Nat) (x i:bw)
 |idx (sz n:Nat) (agg:Bool) (x i:bw)
 |iL (x i:bw)
 |ext (x:bw) (i:Nat)
 |eG (f:Fn) (first cap:List bw)
 |len (str:Bool) (x:bw)
 |append (sz bytes:Nat) (s x:bw)
 |copy (sz:Nat) (d s:bw)
 |Gf (sz:Nat) (zero:List D) (x:bw)
 |mn (x y:bw)
 |mx (x y:bw)
 |Jo (x y z:bw)
 |JI (x y z:bw)
 |cap (x:bw)
 |clip (sz:Nat) (x h m:bw)
 |sM (sz bytes:Nat) (zero:List D) (s x:bw)
 |bad
 |qi (T:TypeId) (x:bw)
  |xq (T:TypeId) (z:List D) (x:bw)
 |nu (neg:Bool) (x:bw)
 |qB (x:bw)
 |FO (x:bw)
 |mz
 |BV (ok:Bool) (z:D) (m k:bw)
 |DC (m k v:bw)
 |q7 (n:Nat)
 |DK (n:Nat) (ok:Bool) (z:D) (m k:bw)
 |B9 (n:Nat) (m k v:bw)
 |iI (x y:bw)
 deriving Inhabited
def dD(s:List UInt8)(pos:Nat):Nat×Nat:=Utf8.decode ⟨s.toArray⟩ pos
def dL(z:D):List (List UInt8×D)->List UInt8->D
 |[],_=>z
 |p::l,s=>if p.1=s then p.2 else dL z l s
def fG:List (List UInt8×D)->List UInt8->Bool
 |[],_=>false
 |p::l,s=>if p.1=s then true else fG l s
def dU:List (List UInt8×D)->List UInt8->D->List (List UInt8×D)
 |[],s,x=>[(s,x)]
 |p::l,s,x=>if p.1=s then(s,x)::l else p::dU l s x
def Gn(h:Nat)(r:Option bd)(K:V->List (Nat×bd)->Prop):Prop:=match r with
 |some (.obj (.it s pos))=>
  (pos<s.length->K (.cm [.d (.bool true),.d (.int .i64 pos),.d (.int .i32 (dD s pos).1)]) [(h,.obj (.it s (pos+(dD s pos).2)))])/\
  (¬pos<s.length->K (.cm [.d (.bool false)]) [])
 |_=>False
def dG:List V->Option (List Int)
 |[]=>some []
 | .d (.int .i64 n)::l=>(dG l).map (n:: ·)
 |_=>none
def fY(z:D):List (List Int×D)->List Int->D
 |[],_=>z
 |p::l,s=>if p.1=s then p.2 else fY z l s
def gZ:List (List Int×D)->List Int->Bool
 |[],_=>false
 |p::l,s=>if p.1=s then true else gZ l s
def gN:List (List Int×D)->List Int->D->List (List Int×D)
 |[],s,x=>[(s,x)]
 |p::l,s,x=>if p.1=s then(s,x)::l else p::gN l s x
def BT(es:List (List UInt8×Int)):List (List UInt8×D):=es.map fun p=>(p.1,.int .i64 p.2)
def Db(n:Nat)(ok:Bool)(z:D)(r:Option bd)(s:Option (List Int))(K:V->List (Nat×bd)->Prop):Prop:=match r,s with
 |some (.obj (.mq m es)),some s=>m=n/\s.length=n/\K (if ok then .cm [.d (fY z es s),.d (.bool (gZ es s))]else .d (fY z es s)) []
 |_,_=>False
def Ih(n:Nat)(h:Nat)(r:Option bd)(s:Option (List Int))(x:D)(K:V->List (Nat×bd)->Prop):Prop:=match r,s with
 |some (.obj (.mq m es)),some s=>m=n/\s.length=n/\K .any [(h,.obj (.mq n (gN es s x)))]
 |_,_=>False
def xE(ok:Bool)(z:D)(r:Option bd)(s:List UInt8)(K:V->List (Nat×bd)->Prop):Prop:=match r with
 |some (.obj (.mp es))=>K (if ok then .cm [.d (dL z es s),.d (.bool (fG es s))]else .d (dL z es s)) []
 |_=>False
def Gq(h:Nat)(r:Option bd)(s:List UInt8)(x:D)(K:V->List (Nat×bd)->Prop):Prop:=match r with
 |some (.obj (.mp es))=>K .any [(h,.obj (.mp (dU es s x)))]
 |_=>False
def fA(rows:Rows)(h sz n:Nat):Prop:=∃es,rows[h]? =some (.live sz es)/\es.length=n
def jR(op:BinOp)(k:IntKind)(a b:Int)(K:D->Prop):Prop:=match op with
 | .add=>K (.int k (k.wrap (a+b)))
 | .sub=>K (.int k (k.wrap (a-b)))
 | .mul=>K (.int k (k.wrap (a*b)))
 | .quo=>b≠0/\K (.int k (k.wrap (a.tdiv b)))
 | .rem=>b≠0/\K (.int k (a.tmod b))
 | .and=>K (.int k (k.wrap ((BitVec.ofInt k.bits a&&&BitVec.ofInt k.bits b).toNat)))
 | .or=>K (.int k (k.wrap ((BitVec.ofInt k.bits a|||BitVec.ofInt k.bits b).toNat)))
 | .xor=>K (.int k (k.wrap ((BitVec.ofInt k.bits a^^^BitVec.ofInt k.bits b).toNat)))
 | .andNot=>K (.int k (k.wrap ((BitVec.ofInt k.bits a&&& ~~~BitVec.ofInt k.bits b).toNat)))
 | .eql=>K (.bool (decide (a=b)))
 | .neq=>K (.bool (decide (a≠b)))
 | .lss=>K (.bool (decide (a<b)))
 | .leq=>K (.bool (decide (a<=b)))
 | .gtr=>K (.bool (decide (b<a)))
 | .geq=>K (.bool (decide (b<=a)))
 |_=>False
def ko(op:BinOp)(a b:List UInt8)(K:D->Prop):Prop:=match op with
 | .add=>a.length+b.length<=9223372036854775807/\K (.str (a++b))
 | .eql=>K (.bool (decide (a=b)))
 | .neq=>K (.bool (decide (a≠b)))
 | .lss=>K (.bool (Op.bytesLess a b))
 | .leq=>K (.bool (Op.bytesLess a b||decide (a=b)))
 | .gtr=>K (.bool (!(Op.bytesLess a b||decide (a=b))))
 | .geq=>K (.bool (!Op.bytesLess a b))
 |_=>False
def fX(op:BinOp)(x y:V)(K:D->Prop):Prop:=match x,y with
 | .d (.int k a),.d (.int k' b)=>
  match op with
  | .shl=>0<=b/\K (.int k (k.wrap (a*2^(min b.toNat k.bits))))
  | .shr=>0<=b/\K (.int k (a/(2^(min b.toNat k.bits))))
  |op=>k=k'/\jR op k a b K
 | .d (.str a),.d (.str b)=>ko op a b K
 |_,_=>False
def Jv(op:UnOp)(x:V)(K:D->Prop):Prop:=match op,x with
 | .neg,.d (.int k n)=>K (.int k (k.wrap (0-n)))
 | .xor,.d (.int k n)=>K (.int k (k.wrap ((BitVec.ofInt k.bits (if k.signed then-1 else k.max)^^^BitVec.ofInt k.bits n).toNat)))
 | .not,.d (.bool b)=>K (.bool (!b))
 |_,_=>False
def yC:Value->Option (List Int)
 | .agg a=>a.toList.mapM fun| .int .i64 n=>some n|_=>none
 |_=>none
def tB(T:TypeId)(z:List D)(T':TypeId)(u:Value)(K:V->List (Nat×bd)->Prop):Prop:=match u with
 | .nilIface=>K (.cm [.agg (z.map .d),.d (.bool false)]) []
 |u=>match yC u with
  |some ns=>T'=T/\K (.cm [.agg (ns.map fun n=>.d (.int .i64 n)),.d (.bool true)]) []
  |none=>False
def di(v:V)(sz:Nat)(K:List V->Prop):Prop:=match v with
 | .agg cs=>cs.length=sz/\(∀v∈cs,fh v=true)/\K cs
 | .any=>False
 | .cm _=>False
 | .d x=>sz=1/\K [.d x]
 | .cl a b c d e=>sz=1/\K [.cl a b c d e]
 | .aY a b c d e=>sz=1/\K [.aY a b c d e]
 | .fn f a b=>sz=1/\K [.fn f a b]
 | .gV _ _=>False
def mo(e:List V)(off:Nat)(cs:List V):List V:=e.take off++cs++e.drop (off+cs.length)
def iW(ev:bw->V):List (Nat×Nat×bw)->List V->(List V->Prop)->Prop
 |[],cells,K=>K cells
 |(off,sz,x)::ps,cells,K=>off+sz<=cells.length/\di (ev x) sz fun cs=>iW ev ps (mo cells off cs) K
def gl(ev:bw->V)(sz:Nat):List (Nat×bw)->List (List V)->(List (List V)->Prop)->Prop
 |[],es,K=>K es
 |(i,x)::ps,es,K=>i<es.length/\di (ev x) sz fun cs=>gl ev sz ps (es.set i cs) K
def lV(v:V)(K:Int->Prop):Prop:=match v with
 | .d (.int _ n)=>K n
 |_=>False
def jT(ev:bw->V)(o:Option bw)(dflt:Int)(K:Int->Prop):Prop:=match o with
 |none=>K dflt
 |some x=>lV (ev x) K
def PW(es:List (List D)):List UInt8:=es.map fun e=>match e with|[.int _ n]=>UInt8.ofNat n.toNat|_=>0
def isByte(e:List V):Prop:=∃n,e=[.d (.int .u8 n)]
def oc(e:List V):UInt8:=match e with|[.d (.int _ n)]=>UInt8.ofNat n.toNat|_=>0
def rR:V->Bool
 | .d (.str _)=>false
 |_=>true
def eF(rows:Rows)(sz:Nat)(v:V)(K:List (List V)->Prop):Prop:=match v with
 | .d .bm=>K []
 | .d (.sl s es)=>s=sz/\K (es.map (·.map .d))
 | .d (.str s)=>sz=1/\K (s.map fun b=>[.d (.int .u8 b.toNat)])
 | .cl s h n off len=>s=sz/\(∃es,rows[h]? =some (.live sz es)/\es.length=n)/\∀es,rows[h]? =some (.live sz es)->K ((es.drop off).take len)
 |_=>False
def wU:List Nat->List V->List V->Option Bool
 |[],[],[]=>some true
 |0::ks,.d (.int k a)::l,.d (.int k' b)::m=>if k=k' then(wU ks l m).map (decide (a=b)&& ·)else none
 |1::ks,.d (.bool a)::l,.d (.bool b)::m=>(wU ks l m).map ((a==b)&& ·)
 |2::ks,.d (.str a)::l,.d (.str b)::m=>(wU ks l m).map (decide (a=b)&& ·)
 |_,_,_=>none
def Kq(neg:Bool)(r:Option Bool)(K:V->List (Nat×bd)->Prop):Prop:=match r with
 |some r=>K (.d (.bool (if neg then !r else r))) []
 |none=>False
def HT(neg:Bool):Nat->V
 |0=>.d .ke
 |_+1=>.d (.bool neg)
def BQ(o:Option (List Int))(K:List Int->Prop):Prop:=match o with
 |some ns=>K ns
 |none=>False
def bM:Nat:=140737488355328
def bU(o:iE)(ev:bw->V)(rows:Rows)(hf:Nat)(K:V->List (Nat×bd)->Prop):Prop:=match o with
 | .gC x=>K (ev x) []
 | .pick c a b=>
  match ev c with
  | .d (.bool t)=>K (if t then ev a else ev b) []
  |_=>False
 | .g7 x=>
  match ev x with
  | .d (.ptr cs)=>K (.d (.ptr cs)) []
  | .aY sz h n i off=>fA rows h sz n/\K (.aY sz h n i off) []
  | .fn (.func f) a b=>K (.fn (.func f) a b) []
  |_=>False
 | .bin op x y=>fX op (ev x) (ev y) fun v=>K (.d v) []
 | .Ft neg x y=>
  match ev x,ev y with
  | .d (.bool a),.d (.bool b)=>K (.d (.bool (if neg then(a !=b)else(a==b)))) []
  |_,_=>False
 | .FK neg ks x y=>
  match ev x,ev y with
  | .agg a,.agg b=>Kq neg (wU ks a b) K
  |_,_=>False
 | .isNil neg x y=>
  match ev x,ev y with
  | .d .bm,.d .bm=>K (.d (.bool !neg)) []
  | .d (.sl _ (_::_)),.d .bm=>K (.d (.bool neg)) []
  | .d (.sl _ []),.d .bm=>K (.d .ke) []
  | .cl sz h n _ _,.d .bm=>fA rows h sz n/\K (HT neg n) []
  |_,_=>False
 | .un op x=>Jv op (ev x) fun v=>K (.d v) []
 | .conv k x=>
  match ev x with
  | .d (.int _ n)=>K (.d (.int k (k.wrap n))) []
  |_=>False
 | .same x=>
  match ev x with
  | .d (.str s)=>K (.d (.str s)) []
  |_=>False
 | .HI x=>
  match ev x with
  | .d (.str s)=>K (.cl 1 hf s.length 0 s.length) [(hf,.live 1 (s.map fun b=>[.d (.int .u8 b.toNat)]))]
  |_=>False
 | .BW x=>rR (ev x)=true/\eF rows 1 (ev x) fun es=>(∀e∈es,isByte e)/\K (.d (.str (es.map oc))) []
 | .alloc zero=>K (.aY zero.length hf 1 0 0) [(hf,.live zero.length [zero.map .d])]
 | .box sz x=>di (ev x) sz fun cs=>K (.aY sz hf 1 0 0) [(hf,.live sz [cs])]
 | .build zero parts=>iW ev parts (zero.map .d) fun cs=>K (.agg cs) []
 | .b5 sz len zero parts=>gl ev sz parts (List.replicate len (zero.map .d)) fun es=>K (.cl sz hf len 0 len) [(hf,.live sz es)]
 | .load agg sz a=>
  match ev a with
  | .d (.ptr cs)=>
   match agg with
   |true=>sz<=cs.length/\K (.agg ((cs.take sz).map .d)) []
   |false=>0<cs.length/\∀x,cs[0]? =some x->K (.d x) []
  | .aY s h n i off=>fA rows h s n/\i<n/\off+sz<=s/\∀es e,rows[h]? =some (.live s es)->es[i]? =some e->match agg with
   |true=>K (.agg ((e.drop off).take sz)) []
   |false=>sz=1/\off<e.length/\∀x,e[off]? =some x->K x []
  |_=>False
 | .store sz a x=>
  match ev a with
  | .aY s h n i off=>fA rows h s n/\i<n/\off+sz<=s/\di (ev x) sz fun cs=>∀es e,rows[h]? =some (.live s es)->es[i]? =some e->K .any [(h,.live s (es.set i (mo e off cs)))]
  |_=>False
 | .jH sz bytes zero l c=>lV (ev l) fun l=>lV (ev c) fun c=>0<=l/\l<=c/\c<=9223372036854775807/\bytes*c<=281474976710656/\K (.cl sz hf l.toNat 0 l.toNat) [(hf,.live sz (List.replicate l.toNat (zero.map .d)))]
 | .slice sz x lo hi=>
  match ev x with
  | .d .bm=>sz≠0/\jT ev lo 0 fun l=>jT ev hi 0 fun h=>l=0/\h=0/\K (.d .bm) []
  | .d (.sl s es)=>sz≠0/\s=sz/\jT ev lo 0 fun l=>jT ev hi es.length fun h=>0<=l/\l<=h/\h<=es.length/\K (.d (.sl sz ((es.take h.toNat).drop l.toNat))) []
  | .d (.str s)=>sz=0/\jT ev lo 0 fun l=>jT ev hi s.length fun h=>0<=l/\l<=h/\h<=s.length/\K (.d (.str ((s.take h.toNat).drop l.toNat))) []
  | .cl s hh n off len=>sz≠0/\s=sz/\fA rows hh s n/\jT ev lo 0 fun l=>jT ev hi len fun h=>0<=l/\l<=h/\h<=len/\K (.cl sz hh n (off+l.toNat) (h.toNat-l.toNat)) []
  |_=>False
 | .nf off x=>
  match ev x with
  | .d (.ptr cs)=>K (.d (.ptr (cs.drop off))) []
  | .aY s h n i o=>fA rows h s n/\K (.aY s h n i (o+off)) []
  |_=>False
 | .H8 off sz agg x=>
  match ev x with
  | .agg cs=>
   match agg with
   |true=>off+sz<=cs.length/\K (.agg ((cs.drop off).take sz)) []
   |false=>off<cs.length/\∀v,cs[off]? =some v->K v []
  |_=>False
 | .fD sz arr x i=>
  lV (ev i) fun j=>
   match arr,ev x with
   |none,.d (.sl s es)=>s=sz/\0<=j/\j<es.length/\∀e,es[j.toNat]? =some e->K (.d (.ptr e)) []
   |none,.cl s h n off len=>s=sz/\fA rows h s n/\0<=j/\j<len/\K (.aY sz h n (off+j.toNat) 0) []
   |some m,.d (.ptr cs)=>0<=j/\j<m/\K (.d (.ptr (cs.drop (j.toNat*sz)))) []
   |some m,.aY s h n i o=>fA rows h s n/\0<=j/\j<m/\K (.aY s h n i (o+j.toNat*sz)) []
   |_,_=>False
 | .idx sz n agg x i=>
  lV (ev i) fun j=>
   match ev x with
   | .agg cs=>0<=j/\j<n/\cs.length=n*sz/\match agg with
    |true=>K (.agg ((cs.drop (j.toNat*sz)).take sz)) []
    |false=>sz=1/\∀v,cs[j.toNat]? =some v->K v []
   |_=>False
 | .iL x i=>
  lV (ev i) fun j=>
   match ev x with
   | .d (.str s)=>0<=j/\j<s.length/\∀b,s[j.toNat]? =some b->K (.d (.int .u8 b.toNat)) []
   |_=>False
 | .ext x i=>
  match ev x with
  | .cm vs=>i<vs.length/\∀v,vs[i]? =some v->K v []
  |_=>False
 | .eG f first cap=>K (.fn f (first.map ev) (cap.map ev)) []
 | .len str x=>
  match str,ev x with
  |false,.d .bm=>K (.d (.int .i64 0)) []
  |false,.d (.sl _ es)=>K (.d (.int .i64 es.length)) []
  |true,.d (.str s)=>K (.d (.int .i64 s.length)) []
  |false,.cl s h n _ len=>fA rows h s n/\K (.d (.int .i64 len)) []
  |_,_=>False
 | .append sz bytes s x=>
  eF rows sz (ev x) fun xs=>
   match ev s with
   | .d .bm=>xs.length*bytes<=bM/\K (.cl sz hf xs.length 0 xs.length) [(hf,.live sz xs)]
   | .d (.BZ s0 es)=>s0=sz/\xs≠[]/\(es.length+xs.length)*bytes<=bM/\K (.cl sz hf (es.length+xs.length) 0 (es.length+xs.length)) [(hf,.live sz (es.map (·.map .d)++xs))]
   | .cl s h n off len=>s=sz/\off=0/\len=n/\fA rows h sz n/\(n+xs.length)*bytes<=bM/\∀es,rows[h]? =some (.live sz es)->K (.cl sz h (n+xs.length) 0 (n+xs.length)) [(h,.live sz (es++xs))]
   |_=>False
 | .copy sz d s=>
  eF rows sz (ev s) fun xs=>
   match ev d with
   | .d .bm=>K (.d (.int .i64 0)) []
   | .cl s h n off len=>s=sz/\fA rows h sz n/\∀es,rows[h]? =some (.live sz es)->K (.d (.int .i64 (min xs.length len:Nat))) [(h,.live sz (es.take off++xs.take len++es.drop (off+min xs.length len)))]
   |_=>False
 | .Gf sz zero x=>
  match ev x with
  | .cl s h n off len=>s=sz/\fA rows h sz n/\off+len<=n/\∀es,rows[h]? =some (.live sz es)->K (.cm []) [(h,.live sz (es.take off++List.replicate len (zero.map .d)++es.drop (off+len)))]
  |_=>False
 | .mn x y=>
  match ev x,ev y with
  | .d (.int k a),.d (.int _ b)=>K (.d (.int k (if b<a then b else a))) []
  |_,_=>False
 | .mx x y=>
  match ev x,ev y with
  | .d (.int k a),.d (.int _ b)=>K (.d (.int k (if a<b then b else a))) []
  |_,_=>False
 | .Jo x y z=>
  match ev x,ev y,ev z with
  | .d (.int k a),.d (.int _ b),.d (.int _ c)=>K (.d (.int k (min a (min b c)))) []
  |_,_,_=>False
 | .JI x y z=>
  match ev x,ev y,ev z with
  | .d (.int k a),.d (.int _ b),.d (.int _ c)=>K (.d (.int k (max a (max b c)))) []
  |_,_,_=>False
 | .cap x=>
  match ev x with
  | .d .bm=>K (.d (.int .i64 0)) []
  |_=>False
 | .clip sz x hi mx=>
  match ev x with
  | .d (.sl s es)=>sz≠0/\s=sz/\lV (ev hi) fun h=>lV (ev mx) fun m=>h=es.length/\m=es.length/\K (.d (.BZ sz es)) []
  |_=>False
 | .sM sz bytes zero s x=>
  match ev s,ev x with
  | .d .bm,.d (.int .i64 n)=>0<n/\n*bytes<=bM/\K (.cl sz hf n.toNat 0 n.toNat) [(hf,.live sz (List.replicate n.toNat (zero.map .d)))]
  |_,_=>False
 | .bad=>False
 | .qi T x=>
  match ev x with
  | .agg cs=>BQ (dG cs) fun ns=>K (.gV T (kq ns)) []
  |_=>False
 | .xq T z x=>
  match ev x with
  | .gV T' u=>tB T z T' u K
  |_=>False
 | .nu neg x=>
  match ev x with
  | .gV _ .nilIface=>K (.d (.bool !neg)) []
  |_=>False
 | .qB x=>
  match ev x with
  | .d (.str s)=>K (.aY 0 hf 0 0 0) [(hf,.obj (.it s 0))]
  |_=>False
 | .FO x=>
  match ev x with
  | .aY 0 h 0 0 0=>Gn h rows[h]? K
  |_=>False
 | .mz=>K (.aY 0 hf 0 1 0) [(hf,.obj (.mp []))]
 | .BV ok z m k=>
  match ev m,ev k with
  | .aY 0 h 0 1 0,.d (.str s)=>fy z=true/\xE ok z rows[h]? s K
  | .d (.mp es),.d (.str s)=>fy z=true/\xE ok z (some (.obj (.mp (BT es)))) s K
  |_,_=>False
 | .q7 n=>K (.aY 0 hf 0 1 0) [(hf,.obj (.mq n []))]
 | .DK n ok z m k=>
  match ev m,ev k with
  | .aY 0 h 0 1 0,.agg cs=>fy z=true/\Db n ok z rows[h]? (dG cs) K
  |_,_=>False
 | .B9 n m k v=>
  match ev m,ev k,ev v with
  | .aY 0 h 0 1 0,.agg cs,.d x=>fy x=true/\Ih n h rows[h]? (dG cs) x K
  |_,_,_=>False
 | .iI x y=>
  match ev x,ev y with
  | .d (.str s),.d (.int .u8 c)=>K (.d (.int .i64 (Lib.indexByte s c.toNat.toUInt8))) []
  |_,_=>False
 | .DC m k v=>
  match ev m,ev k,ev v with
  | .aY 0 h 0 1 0,.d (.str s),.d x=>fy x=true/\Gq h rows[h]? s x K
  |_,_,_=>False
def bq(rows:Rows):List (Nat×bd)->Rows
 |[]=>rows
 |(h,r)::l=>bq (rows.set h r) l
theorem Ok.mi{c:Cx}(ok:Ok c){h:Nat}(hn:c.rows[h]? =some .un):c.ρ h=none:=by
 cases hh:c.ρ h with
 |none=>rfl
 |some b=>obtain⟨_,_,r,hr,hl⟩:=ok.own h b hh;rw[hn]at hr;injection hr with hr;subst hr;exact hl.elim
theorem bK.of_eq{c0 c:Cx}{h:Nat}(hr:c.rows[h]? =c0.rows[h]?)(hρ:c.ρ h=c0.ρ h) (hb:∀b,c0.ρ h=some b->c.w.heap[b]? =c0.w.heap[b]?):bK c0 c h:=by
 unfold bK;split
 ·trivial
 ·rename_i hh;exact⟨_,hr.trans hh⟩
 ·rename_i hh;exact hr.trans hh
 ·rename_i hh;exact .inr ⟨⟨_,hr.trans hh⟩,hρ⟩
 ·rename_i hh;exact .inr ⟨_,hr.trans hh,.inr ⟨rfl,hρ,fun b arr ty fz h1 h2=>⟨arr,fz,(hb b h1).trans h2,rfl⟩⟩⟩
theorem eO{w w':World}{o:Obj}(hw:w'.heap=w.heap.push o){b:Nat}(hb:b<w.heap.size):w'.heap[b]? =w.heap[b]? :=by rw[hw,Array.getElem?_push,if_neg om]
theorem mh{w w':World}{o:Obj}(hw:w'.heap=w.heap.push o):w'.heap[w.heap.size]? =some o:=by rw[hw,Array.getElem?_push,if_pos rfl]
theorem ve{rows:Rows}{h hf sz:Nat}{es:List (List V)}{o:GO}(hr:(rows.set hf (.live sz es))[h]? =some (bd.obj o)):rows[h]? =some (bd.obj o):=by
 rw[List.getElem?_set]at hr;split at hr
 ·split at hr<;>simp at hr
 ·exact hr
theorem jI{c:Cx}(ok:Ok c)(hf sz:Nat)(es:List (List V))(arr:Array Value)(ty:TypeId)(fz:Nat×Nat) (hu:c.rows[hf]? =some .un\/∃es0,c.rows[hf]? =some (.live sz es0)/\es0.length<es.length) (hfz:∀i,i<arr.size->¬(fz.1<=i/\i<fz.2)) (hc:fC c sz es arr) (w':World) (hw:w'.heap=c.w.heap.push (.cells arr ty fz)) (hos:w'.os=c.w.os) (htape:w'.tape=c.w.tape) (hout:w'.output=c.w.output):Ok ⟨fun h=>if h=hf then some c.w.heap.size else c.ρ h,c.I,c.rows.set hf (.live sz es),w'⟩/\Ext c ⟨fun h=>if h=hf then some c.w.heap.size else c.ρ h,c.I,c.rows.set hf (.live sz es),w'⟩:=by
 have hlt:hf<c.rows.length:=by rcases hu with hu|⟨es0,hu,_⟩<;>exact(ad.1 hu).1
 have hx:Ext c ⟨fun h=>if h=hf then some c.w.heap.size else c.ρ h,c.I,c.rows.set hf (.live sz es),w'⟩:=by
  refine⟨hos,htape,hout,by simp[hw],fun b hb _=>eO hw hb,fun _ h=>h,fun _ h=>.inl h,?_,?_⟩
  ·intro h b hb;dsimp only at hb;split at hb
   ·injection hb with hb;exact .inr om
   ·exact .inl hb
  ·intro h;by_cases hh:h=hf
   ·subst hh;unfold bK;rcases hu with hu|⟨es0,hu,hl⟩
    ·rw[hu];exact⟨_,by simp[hlt];rfl⟩
    ·rw[hu];exact .inr ⟨es,by simp[hlt],.inl hl⟩
   ·exact bK.of_eq (by simp[Ne.symm hh]) (by simp[hh]) (fun b hb=>eO hw (ok.own _ _ hb).1)
 have hne:∀(h:Nat) (o:GO),(c.rows.set hf (.live sz es))[h]? =some (bd.obj o)->h≠hf:=fun h o hr e=>by subst e;simp[hlt]at hr
 refine⟨⟨?_,?_,?_,?_,?_,.step ok hx fun h o hr=>⟨ve hr,by simp[hne h o hr],fun b hb=>eO hw (ok.own h b hb).1⟩⟩,hx⟩
 ·intro h h' b h1 h2;dsimp only at h1 h2;split at h1<;>split at h2
  ·simp_all
  ·injection h1 with h1;have:=(ok.own _ _ h2).1;omega
  ·injection h2 with h2;have:=(ok.own _ _ h1).1;omega
  ·exact ok.inj _ _ _ h1 h2
 ·intro h b hb;dsimp only at hb|-;split at hb
  ·rename_i hh;subst hh;injection hb with hb;subst hb
   exact⟨by simp[hw],fun hi=>absurd (ok.jP _ hi) om,.live sz es,by simp[hlt],trivial⟩
  ·rename_i hh;obtain⟨h1,h2,r,h3,h4⟩:=ok.own _ _ hb;exact⟨by simp[hw];omega,h2,r,by simp[Ne.symm hh,h3],h4⟩
 ·intro h b sz' es' hb hr;dsimp only at hb hr;split at hb
  ·rename_i hh;subst hh;injection hb with hb;subst hb
   simp[hlt]at hr;obtain⟨rfl,rfl⟩:=hr;exact⟨arr,ty,fz,mh hw,hfz,hc.mono hx ok⟩
  ·rename_i hh;simp[Ne.symm hh]at hr;obtain⟨arr',ty',fz',h1,h2,h3⟩:=ok.cont _ _ _ _ hb hr;exact⟨arr',ty',fz',(eO hw (ok.own _ _ hb).1).trans h1,h2,h3.mono hx ok⟩
 ·intro h sz' es' hb hr;dsimp only at hb hr;split at hb
  ·cases hb
  ·rename_i hh;simp[Ne.symm hh]at hr;exact ok.je _ _ _ hb hr
 ·intro b hb;have:=ok.jP b hb;simp[hw];omega
theorem qy{c:Cx}(ok:Ok c)(hf sz:Nat)(hu:c.rows[hf]? =some .un):Ok ⟨c.ρ,c.I,c.rows.set hf (.live sz []),c.w⟩/\Ext c ⟨c.ρ,c.I,c.rows.set hf (.live sz []),c.w⟩:=by
 have hlt:hf<c.rows.length:=(ad.1 hu).1;have hn:c.ρ hf=none:=ok.mi hu;have hx:Ext c ⟨c.ρ,c.I,c.rows.set hf (.live sz []),c.w⟩:=by
  refine⟨rfl,rfl,rfl,aq _,fun _ _ _=>rfl,fun _ h=>h,fun _ h=>.inl h,fun _ _ h=>.inl h,fun h=>?_⟩;by_cases hh:h=hf
  ·subst hh;unfold bK;rw[hu];exact⟨_,by simp[hlt];rfl⟩
  ·exact bK.of_eq (by simp[Ne.symm hh]) rfl (fun b hb=>rfl)
 refine⟨⟨ok.inj,?_,?_,?_,ok.jP,.step ok hx fun h o hr=>⟨ve hr,rfl,fun _ _=>rfl⟩⟩,hx⟩
 ·intro h b hb;have hh:h≠hf:=fun e=>by subst e;rw[hn]at hb;cases hb
  obtain⟨h1,h2,r,h3,h4⟩:=ok.own _ _ hb;exact⟨h1,h2,r,by simp[Ne.symm hh,h3],h4⟩
 ·intro h b sz' es' hb hr;have hh:h≠hf:=fun e=>by subst e;simp only at hb;rw[hn]at hb;cases hb
  simp[Ne.symm hh]at hr;obtain⟨arr',ty',fz',h1,h2,h3⟩:=ok.cont _ _ _ _ hb hr;exact⟨arr',ty',fz',h1,h2,h3.mono hx ok⟩
 ·intro h sz' es' hb hr;by_cases hh:h=hf
  ·subst hh;simp[hlt]at hr;exact hr.2.symm▸rfl
  ·simp[Ne.symm hh]at hr;exact ok.je _ _ _ hb hr
theorem vM{c:Cx}(ok:Ok c)(h b sz:Nat)(es es':List (List V))(arr arr':Array Value)(ty:TypeId)(fz:Nat×Nat) (hrow:c.rows[h]? =some (.live sz es)) (hρ:c.ρ h=some b) (hb:c.w.heap[b]? =some (.cells arr ty fz)) (hfz:∀i,i<arr.size->¬(fz.1<=i/\i<fz.2)) (hsize:arr'.size=arr.size) (hlen:es.length<=es'.length) (hc:fC c sz es' arr'):Ok ⟨c.ρ,c.I,c.rows.set h (.live sz es'),c.w.setRow b arr'⟩/\Ext c ⟨c.ρ,c.I,c.rows.set h (.live sz es'),c.w.setRow b arr'⟩:=by
 have hlt:h<c.rows.length:=(ad.1 hrow).1;have hx:Ext c ⟨c.ρ,c.I,c.rows.set h (.live sz es'),c.w.setRow b arr'⟩:=by
  refine⟨rfl,rfl,rfl,sm,fun k _ hno=>setRow_other _ _ _ _ (fun e=>hno h (by rw[hρ,e])),fun _ h=>h,fun _ h=>.inl h,fun _ _ h=>.inl h,fun k=>?_⟩;by_cases hh:k=h
  ·subst hh;unfold bK;rw[hrow];refine .inr ⟨es',by simp[hlt],?_⟩;rcases Nat.lt_or_eq_of_le hlen with hl|hl
   ·exact .inl hl
   ·refine .inr ⟨hl,rfl,fun b' arr1 ty1 fz1 hb' hc1=>?_⟩;rw[hρ]at hb';injection hb' with hb';subst hb'
    rw[hb]at hc1;injection hc1 with hc1;injection hc1 with e1 e2 e3;subst e1 e2 e3
    exact⟨arr',fz,setRow_heap _ _ _ _ _ _ hb,hsize⟩
  ·refine bK.of_eq (by simp[Ne.symm hh]) rfl (fun b' hb'=>setRow_other _ _ _ _ (fun e=>?_));subst e;exact hh (ok.inj _ _ _ hb' hρ)
 have hne:∀(k:Nat) (o:GO),(c.rows.set h (.live sz es'))[k]? =some (bd.obj o)->k≠h:=fun k o hr e=>by subst e;simp[hlt]at hr
 refine⟨⟨ok.inj,?_,?_,?_,fun b hb=>by simpa using ok.jP b hb,.step ok hx fun k o hr=>⟨ve hr,rfl,fun b' hb'=>setRow_other _ _ _ _ (fun e=>hne k o hr (ok.inj _ _ _ (e▸hb') hρ))⟩⟩,hx⟩
 ·intro k b' hb';obtain⟨h1,h2,r,h3,h4⟩:=ok.own _ _ hb';by_cases hh:k=h
  ·subst hh;exact⟨by simpa using h1,h2,.live sz es',by simp[hlt],trivial⟩
  ·exact⟨by simpa using h1,h2,r,by simp[Ne.symm hh,h3],h4⟩
 ·intro k b' sz' es1 hb' hr;by_cases hh:k=h
  ·subst hh;simp[hlt]at hr;obtain⟨rfl,rfl⟩:=hr;simp only at hb';rw[hρ]at hb';injection hb' with hb';subst hb'
   exact⟨arr',ty,fz,setRow_heap _ _ _ _ _ _ hb,by rw[hsize];exact hfz,hc.mono hx ok⟩
  ·simp[Ne.symm hh]at hr;obtain⟨arr1,ty1,fz1,h1,h2,h3⟩:=ok.cont _ _ _ _ hb' hr;refine⟨arr1,ty1,fz1,?_,h2,h3.mono hx ok⟩;rw[setRow_other _ _ _ _ (fun e=>?_)];exact h1;subst e;exact hh (ok.inj _ _ _ hb' hρ)
 ·intro k sz' es1 hb' hr;by_cases hh:k=h
  ·subst hh;simp only at hb';rw[hρ]at hb';cases hb'
  ·simp[Ne.symm hh]at hr;exact ok.je _ _ _ hb' hr
def cX(c:Cx)(r:Result Value)(K:V->List (Nat×bd)->Prop):Prop:=∃v ups u c',K v ups/\r=.ok u c'.w/\Ok c'/\Ext c c'/\c'.rows=bq c.rows ups/\b7 c' u v
section
variable{P:Program}{c:Cx}{K:V->List (Nat×bd)->Prop}
theorem cX.same(ok:Ok c){v:V}{u:Value}{r:Result Value}(hk:K v [])(hr:r=.ok u c.w)(hrep:b7 c u v):cX c r K:=⟨v,[],u,c,hk,hr,ok,.refl c,rfl,hrep⟩
theorem dw{u:Value}{k:IntKind}{n:Int}(h:b7 c u (.d (.int k n))):u=.int k n:=by cases h with|d _ _ h=>cases h;rfl
theorem gH{u:Value}{b:Bool}(h:b7 c u (.d (.bool b))):u=.bool b:=by cases h with|d _ _ h=>cases h;rfl
theorem BP{u:Value}(h:b7 c u (.d .ke)):∃b,u=.bool b:=by cases h with|d _ _ h=>cases h;exact⟨_,rfl⟩
theorem iw{u:Value}{s:List UInt8}(h:b7 c u (.d (.str s))):u=.string ⟨s.toArray⟩:=by cases h with|d _ _ h=>cases h;rfl
theorem fx{u:Value}(h:b7 c u (.d .bm)):u=.slice none 0 0:=by cases h with|d _ _ h=>cases h;rfl
theorem cP(k:IntKind)(n:Int):b7 c (.int k n) (.d (.int k n)):=.d _ _ (.int k n)
theorem ew(b:Bool):b7 c (.bool b) (.d (.bool b)):=.d _ _ (.bool b)
theorem uW(s:List UInt8):b7 c (.string ⟨s.toArray⟩) (.d (.str s)):=.d _ _ (.str s)
theorem fdiv_pow(a:Int)(n:Nat):a.fdiv (2^n)=a/2^n:=by rw[Int.fdiv_eq_ediv_of_nonneg];exact Int.le_of_lt (Int.pow_pos dc)
theorem sR(s:List UInt8):(⟨s.toArray⟩:ByteArray).toList=s:=by rw[ByteArray.toList_eq]
theorem Cq{a b:List UInt8}:(a==b)=decide (a=b):=by by_cases h:a=b<;>simp[h]
theorem AJ(ok:Ok c){op:BinOp}{t:TypeId}{x y:Operand}{ux uy:Value}{vx vy:V}(hx:b7 c ux vx)(hy:b7 c uy vy) (h:fX op vx vy fun d=>K (.d d) []):cX c ((do eqGuard op t x y ux uy;binOp op t ux uy:Sem Value).run P c.w) K:=by
 unfold fX at h;split at h
 ·rename_i k a k' b;have ex:=dw hx;have ey:=dw hy;subst ex ey;split at h
  ·obtain⟨h0,hk⟩:=h;refine cX.same ok hk ?_ (cP _ _);simp[eqGuard_at_int,binOp,Op.shift,Int.not_lt.2 h0]
  ·obtain⟨h0,hk⟩:=h;refine cX.same ok hk ?_ (cP _ _);simp[eqGuard_at_int,binOp,Op.shift,Int.not_lt.2 h0,fdiv_pow]
  ·obtain⟨rfl,h⟩:=h;unfold jR at h;split at h
   ·refine cX.same ok h ?_ (cP _ _);simp[eqGuard_at_int,binOp,Op.intArith]
   ·refine cX.same ok h ?_ (cP _ _);simp[eqGuard_at_int,binOp,Op.intArith]
   ·refine cX.same ok h ?_ (cP _ _);simp[eqGuard_at_int,binOp,Op.intArith]
   ·refine cX.same ok h.2 ?_ (cP _ _);simp[eqGuard_at_int,binOp,Op.intDiv,h.1]
   ·refine cX.same ok h.2 ?_ (cP _ _);simp[eqGuard_at_int,binOp,Op.intDiv,h.1]
   ·refine cX.same ok h ?_ (cP _ _);simp only[eqGuard_at_int,pure_bind,binOp_and];rfl
   ·refine cX.same ok h ?_ (cP _ _);simp only[eqGuard_at_int,pure_bind,binOp_or];rfl
   ·refine cX.same ok h ?_ (cP _ _);simp only[eqGuard_at_int,pure_bind,binOp_xor];rfl
   ·refine cX.same ok h ?_ (cP _ _);simp only[eqGuard_at_int,pure_bind,binOp_andNot];rfl
   ·refine cX.same ok h ?_ (ew _);simp only[eqGuard_at_int,binOp,Op.intCmp];by_cases hh:a=b<;>simp[hh]
   ·refine cX.same ok h ?_ (ew _);simp only[eqGuard_at_int,binOp,Op.intCmp];by_cases hh:a=b<;>simp[hh]
   ·refine cX.same ok h ?_ (ew _);simp[eqGuard_at_int,binOp,Op.intCmp]
   ·refine cX.same ok h ?_ (ew _);simp[eqGuard_at_int,binOp,Op.intCmp]
   ·refine cX.same ok h ?_ (ew _);simp[eqGuard_at_int,binOp,Op.intCmp]
   ·refine cX.same ok h ?_ (ew _);simp[eqGuard_at_int,binOp,Op.intCmp]
   ·exact h.elim
 ·rename_i a b;have ex:=iw hx;have ey:=iw hy;subst ex ey;unfold ko at h;split at h<;>try contradiction
  ·obtain⟨h0,hk⟩:=h;refine cX.same ok hk (u:=.string ⟨(a++b).toArray⟩) ?_ (uW _);have h1:¬(9223372036854775807<((a.length+b.length:Nat):Int)):=om;simp only[eqGuard_at_string,binOp,Op.stringOp,pure_bind];rw[if_neg (by simpa[ByteArray.size]using h1)];simp only[Sem.run_pure];congr 2
  all_goals
   refine cX.same ok h ?_ (ew _);simp only[eqGuard_at_string,binOp,Op.stringOp,sR,Cq];simp
 ·exact h.elim
def nL(P:Program)(t:TypeId)(sz:Nat):Prop:=∃i,P.info? t=some i/\i.size=sz
def vU(P:Program)(t:TypeId)(b:Bool):Prop:=∃d,P.underlying t=some d/\(match d with| .struct _| .array _ _=>true|_=>false)=b
theorem cu{t:TypeId}{sz:Nat}(h:nL P t sz)(w:World):(sizeOf t).run P w=.ok sz w:=by obtain⟨i,h,rfl⟩:=h;simp[sizeOf,typeInfo,h]
theorem dQ{t:TypeId}{b:Bool}(h:vU P t b)(w:World):(isAgg t).run P w=.ok b w:=by obtain⟨d,h,rfl⟩:=h;cases d<;>simp[isAgg,run_underlying h]
theorem gJ(b o n:Nat):(⟨b,o,none⟩:Addr).add n=⟨b,o+n,none⟩:=by unfold Addr.add;split<;>simp_all
theorem jM{u:Value}{sz h n i off:Nat}(hr:b7 c u (.aY sz h n i off))(hl:fA c.rows h sz n):∃b,c.ρ h=some b/\u=.pointer (some ⟨b,i*sz+off,none⟩):=by
 obtain⟨es,hl,hn⟩:=hl;cases hr with
 |aY _ _ _ _ _ b es' hrow hn' hρ=>exact⟨b,hρ,rfl⟩
 |cD _ _ _ _ _ _ _ hs=>
  rcases hs with hs|⟨sz',es',hs,hlt⟩
  ·rw[hs]at hl;cases hl
  ·rw[hs]at hl;injection hl with hl;injection hl with e1 e2;subst e2;omega
 |oh _ _ _ b o hrow=>rw[hrow]at hl;cases hl
theorem gQ{u:Value}{sz h n off len:Nat}(hr:b7 c u (.cl sz h n off len))(hl:fA c.rows h sz n):(u=.slice none 0 0/\n=0/\off=0/\len=0/\c.ρ h=none)\/∃cap b o arr ty fz,u=.slice (some ⟨b,o,none⟩) len cap/\c.ρ h=some b/\c.w.heap[b]? =some (.cells arr ty fz)/\(o=off*sz\/cap=0)/\(off+cap)*sz<=arr.size/\len<=cap/\off+len<=n:=by
 obtain⟨es,hl,hn⟩:=hl;cases hr with
 |cl _ _ _ _ _ cap b o es' arr ty fz hrow hn' hρ hb ho hcap hlc hlen=>exact .inr ⟨cap,b,o,arr,ty,fz,rfl,hρ,hb,ho,hcap,hlc,hlen⟩
 |c8 _ _ hrow hρ=>exact .inl ⟨rfl,rfl,rfl,rfl,hρ⟩
 |cW _ _ _ _ _ _ _ hs=>
  rcases hs with hs|⟨sz',es',hs,hlt⟩
  ·rw[hs]at hl;cases hl
  ·rw[hs]at hl;injection hl with hl;injection hl with e1 e2;subst e2;omega
theorem fj(ok:Ok c){h b sz:Nat}{es:List (List V)}(hrow:c.rows[h]? =some (.live sz es))(hρ:c.ρ h=some b):∃arr ty fz,c.w.heap[b]? =some (.cells arr ty fz)/\(∀i,i<arr.size->¬(fz.1<=i/\i<fz.2))/\fC c sz es arr:=ok.cont h b sz es hρ hrow
theorem cell_of{w:World}{b o:Nat}{arr:Array Value}{ty:TypeId}{fz:Nat×Nat}(h:w.heap[b]? =some (.cells arr ty fz)):w.cell? ⟨b,o,none⟩=arr[o]? :=by simp[World.cell?,h]
theorem Ip{arr:Array Value}{sz:Nat}{es:List (List V)}(hc:fC c sz es arr){i:Nat}{e:List V}(he:es[i]? =some e){j:Nat}(hj:j<sz):∃x v,arr[i*sz+j]? =some x/\e[j]? =some v/\b7 c x v:=by have hlen:=(hc.1 e (af he)).1;have hv:e[j]? =some (e[j]'om):=ae om;obtain⟨x,h1,h2⟩:=hc.2.2 i e j _ he hv;exact⟨x,_,h1,hv,h2⟩
def dX(c:Cx)(us:List Value)(vs:List V):Prop:=us.length=vs.length/\∀(j:Nat) (v:V) (x:Value),vs[j]? =some v->us[j]? =some x->b7 c x v
theorem iJ{w:World}(b o n:Nat)(f:Nat->Value)(h:∀j,j<n->w.cell? ⟨b,o+j,none⟩=some (f j)):(loadCells ⟨b,o,none⟩ n).run P w=.ok ((List.range n).map f).toArray w:=run_loadCells (P:=P) w ⟨b,o,none⟩ n f (fun j hj=>by rw[gJ];exact h j hj)
def zd(c:Cx)(r:Result Value)(K:V->List (Nat×bd)->Prop):Prop:=∃v u,K v []/\r=.ok u c.w/\b7 c u v
theorem zd.same{v:V}{u:Value}{r:Result Value}(hk:K v [])(hr:r=.ok u c.w)(hrep:b7 c u v):zd c r K:=⟨v,u,hk,hr,hrep⟩
theorem tR(ok:Ok c){t:TypeId}{agg:Bool}{sz:Nat}{x:bw}{ev:bw->V}{hf:Nat}{u:Value}(hs:nL P t sz)(ha:vU P t agg) (hr:b7 c u (ev x)) (h:bU (.load agg sz x) ev c.rows hf K):zd c ((Instr.loadAt t u).run P c.w) K:=by
 simp only[bU]at h;split at h
 ·rename_i cs hx;rw[hx]at hr;cases hr with|d _ _ hr=>
  cases hr with|ptr _ b off uu hI hcell hrep=>
  cases agg with
  |true=>
   obtain⟨hle,hk⟩:=h;have hl:=iJ (P:=P) (w:=c.w) b off sz uu (fun j hj=>hcell j (cs[j]'om) (ae om));refine zd.same hk (u:=.agg ((List.range sz).map uu).toArray) ?_ ?_
   ·simp[Instr.loadAt,Instr.sureAddr,loadVar,dQ ha,cu hs,hl]
   ·refine .agg _ _ so (fun j v x h1 h2=>?_);simp only[ar,List.getElem?_take]at h1;split at h1
    ·rename_i hj;obtain⟨d,hd,rfl⟩:=aa.1 h1;simp[hj]at h2;subst h2;exact .d _ _ (hrep j d hd)
    ·cases h1
  |false=>obtain⟨hpos,hk⟩:=h;have h0:cs[0]? =some (cs[0]'hpos):=ae hpos;refine zd.same (hk _ h0) (u:=uu 0) ?_ (.d _ _ (hrep 0 _ h0));have:=hcell 0 _ h0;simp only[Nat.add_zero]at this;simp[Instr.loadAt,Instr.sureAddr,loadVar,dQ ha,this]
 ·rename_i s hh n i off hx;rw[hx]at hr;obtain⟨hlive,hi,hoff,hk⟩:=h;obtain⟨b,hρ,rfl⟩:=jM hr hlive;obtain⟨es,hrow,rfl⟩:=hlive;have he:es[i]? =some (es[i]'hi):=ae hi;obtain⟨arr,ty,fz,hb,hfz,hc⟩:=fj ok hrow hρ;have hk2:=hk es _ hrow he;clear hk;have hel:=(hc.1 _ (af he)).1;have hcell:∀j,j<sz->∃x v,arr[i*s+(off+j)]? =some x/\(es[i]'hi)[off+j]? =some v/\b7 c x v:=fun j hj=>Ip hc he om;cases agg with
  |true=>
   have hl:=iJ (P:=P) (w:=c.w) b (i*s+off) sz (fun j=>arr.getD (i*s+(off+j)) undef) (fun j hj=>by obtain⟨x,v,h1,h2,h3⟩:=hcell j hj;rw[cell_of hb,Nat.add_assoc,h1];simp[au,h1]);refine zd.same hk2 (u:=.agg ((List.range sz).map fun j=>arr.getD (i*s+(off+j)) undef).toArray) ?_ ?_
   ·simp[Instr.loadAt,Instr.sureAddr,loadVar,dQ ha,cu hs,hl]
   ·refine .agg _ _ so (fun j v x h1 h2=>?_);have hj:j<sz:=by have:=(ad.1 h1).1;simp at this;omega
    obtain⟨x',v',e1,e2,e3⟩:=hcell j hj;simp[hj]at h1;rw[e2]at h1;injection h1 with h1;subst h1
    simp[hj,au,e1]at h2;subst h2;exact e3
  |false=>
   obtain⟨rfl,-,hk3⟩:=hk2;obtain⟨x',v',e1,e2,e3⟩:=hcell 0 om;simp only[Nat.add_zero]at e1 e2;refine zd.same (hk3 _ e2) (u:=x') ?_ e3;have:c.w.cell? ⟨b,i*s+off,none⟩=some x':=by rw[cell_of hb,e1]
   simp[Instr.loadAt,Instr.sureAddr,loadVar,dQ ha,this]
 ·exact h.elim
theorem Cg(ok:Ok c){t:TypeId}{agg:Bool}{sz:Nat}{x:bw}{ev:bw->V}{hf:Nat}{u:Value}(hs:nL P t sz)(ha:vU P t agg) (hr:b7 c u (ev x)) (h:bU (.load agg sz x) ev c.rows hf K):cX c ((Instr.loadAt t u).run P c.w) K:=by obtain⟨v,u,hk,he,hr⟩:=tR ok hs ha hr h;exact cX.same ok hk he hr
end
section
variable{P:Program}{c:Cx}{K:V->List (Nat×bd)->Prop}{rows:Rows}
theorem oH{u:Value}{v:V}{sz:Nat}{K':List V->Prop}(hr:b7 c u v)(h:di v sz K'):∃cs,cs.length=sz/\(∀x∈cs,fh x=true)/\dX c u.cells.toList cs/\K' cs:=by
 unfold di at h;split at h
 ·rename_i cs;cases hr with|agg vs _ hlen hrep=>
  exact⟨cs,h.1,h.2.1,⟨by simpa[Value.cells]using hlen,fun j v x h1 h2=>hrep j v x h1 (by simpa[Value.cells]using h2)⟩,h.2.2⟩
 ·exact h.elim
 ·exact h.elim
 all_goals first|exact False.elim h|skip
 all_goals
  obtain⟨rfl,hk⟩:=h;have hone:=hr.one rfl;refine⟨_,rfl,by simp[fh],?_,hk⟩;have hc:u.cells= #[u]:=by cases u<;>first|rfl|(simp[Value.oneCell']at hone)
  rw[hc];refine⟨rfl,fun j v x h1 h2=>?_⟩;cases j with
  |zero=>simp at h1 h2;subst h1 h2;exact hr
  |succ j=>simp at h1
theorem dX.get{us:List Value}{vs:List V}(h:dX c us vs){j:Nat}{v:V}(hj:vs[j]? =some v):∃x,us[j]? =some x/\b7 c x v:=by have hlt:=(ad.1 hj).1;have:us[j]? =some (us[j]'(by rw[h.1];exact hlt)):=ae _;exact⟨_,this,h.2 j v _ hj this⟩
theorem dX.mono{c0:Cx}(hx:Ext c0 c)(ok:Ok c0){us:List Value}{vs:List V}(h:dX c0 us vs):dX c us vs:=⟨h.1,fun j v x h1 h2=>(h.2 j v x h1 h2).mono hx ok⟩
theorem xo{us:List Value}{cs:List V}(hl:dX c us cs)(ho:∀x∈cs,fh x=true):fC c cs.length [cs] us.toArray:=by
 refine⟨fun e he=>?_,by simp[hl.1],fun i e j v h1 h2=>?_⟩
 ·simp at he;subst he;exact⟨rfl,ho⟩
 ·cases i with
  |zero=>simp at h1;subst h1;obtain⟨x,hx,hr⟩:=hl.get h2;exact⟨x,by simpa using hx,hr⟩
  |succ i=>simp at h1
theorem Il(ok:Ok c){t:TypeId}{sz:Nat}{x:bw}{ev:bw->V}{hf:Nat}{u:Value}(hu:c.rows[hf]? =some .un) (hr:b7 c u (ev x)) (h:bU (.box sz x) ev c.rows hf K):cX c ((Instr.box t u).run P c.w) K:=by
 simp only[bU]at h;obtain⟨cs,rfl,ho,hl,hk⟩:=oH hr h;have hal:=jI ok hf cs.length [cs] u.cells t (0,0) (.inl hu) (fun i _=>om) (by simpa using xo hl ho) (c.w.alloc (.cells u.cells t)) rfl rfl rfl rfl;refine⟨_,_,.pointer (some ⟨c.w.heap.size,0,none⟩),_,hk,?_,hal.1,hal.2,rfl,?_⟩
 ·simp[Instr.box,newVar,newRow]
 ·have hlt:=(ad.1 hu).1;have:=b7.aY (c:=⟨fun h=>if h=hf then some c.w.heap.size else c.ρ h,c.I,c.rows.set hf (.live cs.length [cs]),c.w.alloc (.cells u.cells t)⟩) cs.length hf 1 0 0 c.w.heap.size [cs] (by simp[hlt]) rfl sm;simpa using this
theorem pK{us:List Value}{zero:List D}(hz:us.length=zero.length)(hrep:∀(j:Nat) (v:D) (x:Value),zero[j]? =some v->us[j]? =some x->dV (fun _=>False) default x v):dX c us (zero.map .d):=by refine⟨by simpa using hz,fun j v x h1 h2=>?_⟩;simp only[ar]at h1;obtain⟨d,hd,rfl⟩:=aa.1 h1;exact .d _ _ ((hrep j d x hd h2).mono (fun _ h=>h.elim) (fun _ h=>h.elim))
def iX(P:Program)(t:TypeId)(zero:List D):Prop:=∃i z,P.info? t=some i/\i.zero=some z/\i.size=zero.length/\z.cells.size=zero.length/\∀(j:Nat) (v:D) (x:Value),zero[j]? =some v->z.cells[j]? =some x->dV (fun _=>False) default x v
theorem pC(zero:List D):∀x∈zero.map V.d,fh x=true:=by intro x hx;obtain⟨d,_,rfl⟩:=aw.1 hx;rfl
theorem Bz(ok:Ok c){t:TypeId}{zero:List D}{ev:bw->V}{hf:Nat}(hu:c.rows[hf]? =some .un)(hz:iX P t zero) (h:bU (.alloc zero) ev c.rows hf K):cX c ((Instr.alloc t true (.tuple #[])).run P c.w) K:=by
 simp only[bU]at h;obtain⟨i,z,hi,hz1,hsz,hcs,hrep⟩:=hz;have hl:dX c z.cells.toList (zero.map .d):=pK (by simpa using hcs) (fun j v x h1 h2=>hrep j v x h1 (by simpa using h2));have hco:=xo hl (pC zero);simp only[an]at hco;have hal:=jI ok hf zero.length [zero.map .d] z.cells t (0,0) (.inl hu) (fun i _=>om) (by simpa using hco) (c.w.alloc (.cells z.cells t)) rfl rfl rfl rfl;refine⟨_,_,.pointer (some ⟨c.w.heap.size,0,none⟩),_,h,?_,hal.1,hal.2,rfl,?_⟩
 ·simp[Instr.alloc,zeroValue,typeInfo,hi,hz1,newVar,newRow]
 ·have hlt:=(ad.1 hu).1;have:=b7.aY (c:=⟨fun h=>if h=hf then some c.w.heap.size else c.ρ h,c.I,c.rows.set hf (.live zero.length [zero.map .d]),c.w.alloc (.cells z.cells t)⟩) zero.length hf 1 0 0 c.w.heap.size [zero.map .d] (by simp[hlt]) rfl sm;simpa using this
theorem dZ(g o:Nat)(t:TypeId)(fz:Nat×Nat):∀(vs:List Value) (i:Nat) (cur:Array Value) (w:World),w.heap[g]? =some (.cells cur t fz)->(∀k,k<cur.size->¬(fz.1<=k/\k<fz.2))->o+i+vs.length<=cur.size->(∀v∈vs,v.oneCell'=true)->(storeCells ⟨g,o,none⟩ vs i).run P w=.ok () (w.setRow g (cur.toList.take (o+i)++vs++cur.toList.drop (o+i+vs.length)).toArray)
 |[],i,cur,w,hg,_,_,_=>by simp only[storeCells,List.append_nil,List.length_nil,Nat.add_zero,List.take_append_drop,Array.toArray_toList];rw[setRow_self w g cur t fz hg];rfl
 |v::rest,i,cur,w,hg,hfz,hl,h1=>by
  have hi:o+i<cur.size:=by simp at hl;omega
  have hadd:(⟨g,o,none⟩:Addr).add i=⟨g,o+i,none⟩:=gJ _ _ _;have hcell:w.cell? ⟨g,o+i,none⟩=some cur[o+i]:=by simp[World.cell?,hg,hi]
  have hfro:w.frozen? ⟨g,o+i,none⟩=false:=by have:=hfz _ hi;simp[World.frozen?,hg];omega
  have hst:(store ((⟨g,o,none⟩:Addr).add i) v).run P w=.ok () (w.setRow g (cur.setIfInBounds (o+i) v)):=by rw[hadd,run_store P w _ v _ (h1 v sm),hcell];simp[hfro,setCell_eq_setRow w g (o+i) cur t fz v hg]
  have ih:=dZ g o t fz rest (i+1) (cur.setIfInBounds (o+i) v) (w.setRow g (cur.setIfInBounds (o+i) v)) (setRow_heap w g cur _ t _ hg) (by simpa using hfz) (by simp at hl|-;omega) (fun x hx=>h1 x (by simp[hx]));simp only[storeCells,Sem.run_bind,hst,Result.andThen_ok,ih,setRow_setRow];congr 3;apply List.ext_getElem?;intro k;simp only[Array.toList_setIfInBounds,List.getElem?_append,List.getElem?_take,List.getElem?_drop,az,List.length_take,List.length_set,List.length_cons,Array.length_toList,List.getElem?_cons,List.getElem?_set]
  grind
end
section
variable{P:Program}{c:Cx}{K:V->List (Nat×bd)->Prop}
theorem lp{α:Type}(l us:List α)(p m:Nat)(h:p+us.length<=l.length):(l.take p++us++l.drop (p+us.length))[m]? =if m<p then l[m]? else if m<p+us.length then us[m-p]? else l[m]? :=by
 simp only[List.getElem?_append,List.getElem?_take,List.getElem?_drop,az,List.length_take]
 grind
theorem hH{α:Type}(l us:List α)(p:Nat)(h:p+us.length<=l.length):(l.take p++us++l.drop (p+us.length)).length=l.length:=by simp;omega
theorem fJ{i i' sz j:Nat}(h:i'<i)(hj:j<sz):i'*sz+j<i*sz:=by have:(i'+1)*sz<=i*sz:=Nat.mul_le_mul_right _ h;rw[Nat.succ_mul]at this;omega
theorem wL{sz:Nat}{es:List (List V)}{arr:Array Value}(hc:fC c sz es arr){i:Nat}{e:List V}(he:es[i]? =some e) {off:Nat} {us:List Value} {cs:List V} (hoff:off+cs.length<=sz) (hl:dX c us cs) (ho:∀x∈cs,fh x=true):fC c sz (es.set i (mo e off cs)) (arr.toList.take (i*sz+off)++us++arr.toList.drop (i*sz+off+us.length)).toArray:=by
 have hi:=(ad.1 he).1;obtain⟨hel,heo⟩:=hc.1 e (af he);have hfit:i*sz+off+us.length<=arr.toList.length:=by have:=fJ (sz:=sz+0) (Nat.lt_of_lt_of_le hi (aq _)) (j:=0);have h2:(i+1)*sz<=es.length*sz:=Nat.mul_le_mul_right _ hi;have h3:=hc.2.1;rw[Nat.succ_mul]at h2;rw[hl.1];simp;omega
 have hlen:(mo e off cs).length=sz:=by have:=hH e cs off om;simp only[mo];omega
 have hal:(arr.toList.take (i*sz+off)++us++arr.toList.drop (i*sz+off+us.length)).toArray.size=arr.size:=by have:=hH _ _ _ hfit;simpa only[List.size_toArray,Array.length_toList]using this
 refine⟨fun e' he'=>?_,by rw[hal,List.length_set];exact hc.2.1,fun i' e' j v h1 h2=>?_⟩
 ·rcases List.mem_or_eq_of_mem_set he' with h|h
  ·exact hc.1 e' h
  ·subst h;refine⟨hlen,fun v hv=>?_⟩;simp only[mo,aU]at hv;rcases hv with(hv|hv)|hv
   ·exact heo v (List.mem_of_mem_take hv)
   ·exact ho v hv
   ·exact heo v (List.mem_of_mem_drop hv)
 ·simp only[List.getElem?_toArray];rw[lp _ _ _ _ hfit,hl.1];have hj:j<sz:=by
   have hlt:=(ad.1 h2).1;rw[List.getElem?_set]at h1;split at h1
   ·injection h1 with h1;subst h1;omega
   ·have:=(hc.1 _ (af h1)).1;omega
  by_cases hii:i=i'
  ·subst hii;simp[hi]at h1;subst h1;simp only[mo]at h2;rw[lp e cs off j om]at h2;by_cases h3:j<off
   ·rw[if_pos h3]at h2;rw[if_pos om];simpa using hc.2.2 i e j v he h2
   ·rw[if_neg h3]at h2;rw[if_neg om];by_cases h4:j<off+cs.length
    ·rw[if_pos h4]at h2;rw[if_pos om,show i*sz+j-(i*sz+off)=j-off by omega];exact hl.get h2
    ·rw[if_neg h4]at h2;rw[if_neg om];simpa using hc.2.2 i e j v he h2
  ·rw[List.getElem?_set_ne hii]at h1;have:=hc.2.2 i' e' j v h1 h2;rcases Nat.lt_or_gt_of_ne hii with hlt|hlt
   ·have h5:=fJ (sz:=sz) (j:=sz-1) hlt om;rw[if_neg om,if_neg om];simpa using this
   ·have h5:=fJ (sz:=sz) (j:=j) hlt hj;rw[if_pos om];simpa using this
theorem AQ(ok:Ok c){t:TypeId}{sz:Nat}{x a:bw}{ev:bw->V}{hf:Nat}{ua ux:Value}(hs:nL P t sz) (hra:b7 c ua (ev a)) (hrx:b7 c ux (ev x)) (h:bU (.store sz a x) ev c.rows hf K):∃v ups c',K v ups/\(Instr.storeAt t ua ux).run P c.w=.ok () c'.w/\Ok c'/\Ext c c'/\c'.rows=bq c.rows ups/\v=.any:=by
 simp only[bU]at h;split at h
 ·rename_i s hh n i off hx;rw[hx]at hra;obtain⟨hlive,hi,hoff,h⟩:=h;obtain⟨b,hρ,rfl⟩:=jM hra hlive;obtain⟨cs,ma,ho,hl,hk⟩:=oH hrx h;obtain⟨es,hrow,rfl⟩:=hlive;have he:es[i]? =some (es[i]'hi):=ae hi;obtain⟨arr,ty,fz,hb,hfz,hc⟩:=fj ok hrow hρ;have hfit:i*s+off+ux.cells.toList.length<=arr.size:=by have h2:(i+1)*s<=es.length*s:=Nat.mul_le_mul_right _ hi;have h3:=hc.2.1;rw[Nat.succ_mul]at h2;rw[hl.1];omega
  have hco:=wL hc he (off:=off) om hl ho;have hup:=vM ok hh b s es (es.set i (mo (es[i]'hi) off cs)) arr _ ty fz hrow hρ hb hfz (by simp;simp at hfit;omega) sm hco;refine⟨_,_,_,hk es _ hrow he,?_,hup.1,hup.2,rfl,rfl⟩;have hone:∀v∈ux.cells.toList,v.oneCell'=true:=fun v hv=>by
   obtain⟨j,hj,rfl⟩:=List.getElem_of_mem hv;have hj':j<cs.length:=by rw[<-hl.1];exact hj
   exact(hl.2 j _ _ (ae hj') (ae hj)).one (ho _ (List.getElem_mem hj'))
  have hst:=dZ (P:=P) b (i*s+off) ty fz ux.cells.toList 0 arr c.w hb hfz (by simpa using hfit) hone;simp only[Nat.add_zero]at hst;have hsz:ux.cells.size=sz:=by have:=hl.1;simp at this;omega
  simp[Instr.storeAt,Instr.sureAddr,storeVar,cu hs,hsz,hst]
 ·exact h.elim
end
end Go.Vx
