/- Proved: rules of a compiled form of the code, sound for the model. Conditions: none but those that each lemma states. -/
import Derived.Test.YtmhkppbollghoaaGreatDoorXd
import Derived.RangeFuncSeq
set_option linter.unusedSectionVars false
set_option linter.unusedSimpArgs false
set_option linter.unusedVariables false
namespace Go.Vx
structure St where
 fr:List V
 rows:Rows
inductive ep where
 |op (o:iE)
 |call (f:bw) (args:List bw)
 |fL (x:bw)
 deriving Inhabited
structure bn where
 dst:Option Nat
 hi:Nat
 guard:Option (Nat×Bool)
 act:ep
 deriving Inhabited
def eg(fr:List V)(dst:Option Nat)(v:V):List V:=match dst with
 |none=>fr
 |some d=>jS fr d v
def gn:V->Bool
 | .cl _ _ _ _ _| .aY _ _ _ _ _=>false
 | .agg _| .cm _| .fn _ _ _=>false
 |_=>true
def lY:V->Bool
 | .agg cs| .cm cs=>cs.all gn
 | .fn _ a b=>a.all gn&&b.all gn
 |v=>gn v
def kv:V->Bool
 | .agg cs| .cm cs=>cs.all lY
 | .fn _ a b=>a.all lY&&b.all lY
 |v=>gn v
def bare(I:Nat->Prop)(w:World):Cx:=⟨fun _=>none,I,[],w⟩
def lH(P:Program)(f:FuncId):Prop:=∃fn,P.funcs[f]? =some fn/\(fn.name== "runtime.NumGoroutine")=false/\fn.body.isNone=false
def CallP(P:Program)(f:FuncId)(vals:List V)(v:V):Prop:=lH P f/\∀(I:Nat->Prop) (w:World) (args:Array Value),Ok (bare I w)->dX (bare I w) args.toList vals->Calls P f args w fun e w'=>∃u I',e=.returned u/\Ok (bare I' w')/\Ext (bare I w) (bare I' w')/\b7 (bare I' w') u v
def sP:V->D
 | .d x=>x
 |_=>.bm
def wD:V->Bool
 | .d _=>true
 |_=>false
def eR(rows:Rows):V->V
 | .cl sz h _ off len=>
  match rows[h]? with
  |some (.live _ es)=>.d (.sl sz (((es.drop off).take len).map (·.map sP)))
  |_=>.any
 | .aY _ h _ i off=>
  match rows[h]? with
  |some (.live _ es)=>
   match es[i]? with
   |some e=>.d (.ptr ((e.drop off).map sP))
   |none=>.any
  |_=>.any
 |v=>v
def dJ(rows:Rows):V->V
 | .agg cs=>.agg (cs.map (eR rows))
 | .fn f a b=>.fn f (a.map (eR rows)) (b.map (eR rows))
 |v=>eR rows v
def eu(rows:Rows):V->Prop
 | .cl sz h n off len=>off+len<=n/\∃es,rows[h]? =some (.live sz es)/\es.length=n/\∀e∈es,∀v∈e,wD v=true
 | .aY sz h n i off=>∃es e,rows[h]? =some (.live sz es)/\es.length=n/\es[i]? =some e/\off<=e.length/\∀v∈e,wD v=true
 |v=>kv v=true
def dN(rows:Rows):V->Prop
 | .agg cs=>∀v∈cs,eu rows v
 | .fn _ a b=>(∀v∈a,eu rows v)/\∀v∈b,eu rows v
 |v=>eu rows v
def xN:V->Bool
 | .d (.int _ _)| .d (.bool _)| .d (.str _)=>true
 |_=>false
def Hd:V->Bool
 | .cm vs=>vs.all xN
 |v=>xN v
def fe:V->List Nat
 | .cl _ h _ _ _=>[h]
 | .aY _ h _ _ _=>[h]
 |_=>[]
def zR(P:Program)(f:FuncId)(vals:List V)(rows:Rows)(v:V):Prop:=((∀x∈vals,kv x=true)/\CallP P f vals v)\/((∀x∈vals,dN rows x)/\Hd v=true/\CallP P f (vals.map (dJ rows)) v)
def fi:V->List Nat
 | .agg cs=>cs.flatMap fe
 | .fn _ a b=>(a++b).flatMap fe
 |v=>fe v
def DN(vals:List V):List (Nat×bd):=(vals.flatMap fi).map fun h=>(h,.dead)
def Jn(P:Program)(f:FuncId)(vals:List V)(rows:Rows)(v:V):Prop:=(∀x∈vals,dN rows x)/\CallP P f (vals.map (dJ rows)) v
mutual
def cJ(h0:Nat):V->V
 | .any=>.any
 | .d x=>.d x
 | .cl sz _ n off len=>.cl sz h0 n off len
 | .aY sz _ n i off=>.aY sz h0 n i off
 | .agg cs=>.agg (cY h0 cs)
 | .cm vs=>.cm (cY h0 vs)
 | .fn f a b=>.fn f (cY h0 a) (cY h0 b)
 | .gV T u=>.gV T u
def cY(h0:Nat):List V->List V
 |[]=>[]
 |v::l=>cJ h0 v::cY h0 l
end
mutual
def hZ:V->Bool
 | .any=>true
 | .d _=>true
 | .cl _ h _ _ _=>h==0
 | .aY _ h _ _ _=>h==0
 | .agg cs=>AM cs
 | .cm vs=>AM vs
 | .fn _ a b=>AM a&&AM b
 | .gV _ _=>true
def AM:List V->Bool
 |[]=>true
 |v::l=>hZ v&&AM l
end
def lS(es:List (List V)):Prop:=∀e∈es,∀v∈e,wD v=true
def qZ(P:Program)(f:FuncId)(vals:List V)(sz:Nat)(es:List (List V))(v:V)(es':List (List V)):Prop:=lH P f/\∀(c:Cx) (args:Array Value),Ok c->c.rows=[.live sz es]->dX c args.toList vals->Calls P f args c.w fun e w'=>∃u c',e=.returned u/\w'=c'.w/\Ok c'/\Ext c c'/\c'.rows=[.live sz es']/\b7 c' u v
def EF(P:Program)(f:FuncId)(vals:List V)(rows:Rows)(v:V)(ups:List (Nat×bd)):Prop:=∃h0 sz es es' vals0 v0,rows[h0]? =some (.live sz es)/\lS es/\lS es'/\es'.length=es.length/\vals=vals0.map (cJ h0)/\(∀x∈vals0,hZ x=true)/\h0∈vals.flatMap fi/\qZ P f vals0 sz es v0 es'/\v=cJ h0 v0/\ups=[(h0,.live sz es')]
def nZ(P:Program)(f:FuncId)(vals:List V)(sz:Nat)(es:List (List V))(ch:List PanicEntry):Prop:=lH P f/\∀(c:Cx) (args:Array Value),Ok c->c.rows=[.live sz es]->dX c args.toList vals->Calls P f args c.w fun e w'=>∃c',e=.panicked ch/\w'=c'.w/\Ok c'/\Ext c c'
def lh(P:Program)(f:FuncId)(vals:List V)(rows:Rows)(ch:List PanicEntry)(ups:List (Nat×bd)):Prop:=∃h0 sz es vals0,rows[h0]? =some (.live sz es)/\lS es/\vals=vals0.map (cJ h0)/\(∀x∈vals0,hZ x=true)/\h0∈vals.flatMap fi/\nZ P f vals0 sz es ch/\ups=[(h0,.dead)]
def nr(P:Program)(f:FuncId)(vals:List V)(rows:Rows)(v:V)(ups:List (Nat×bd)):Prop:=(zR P f vals rows v/\ups=[])\/(Jn P f vals rows v/\ups=DN vals)\/EF P f vals rows v ups
class bf where
 G:Cx->Prop
 pD:∀{c c':Cx},Ext c c'->G c->G c'
instance(priority:=low) ctxTriv:bf:=⟨fun _=>True,fun _ _=>trivial⟩
section
variable[bf]
def dn(P:Program)(f:FuncId)(vals:List V)(rows:Rows)(K:V->Rows->Prop):Prop:=lH P f/\∀(c:Cx) (args:Array Value),Ok c->bf.G c->c.rows=rows->dX c args.toList vals->Calls P f args c.w fun e w'=>∃u c' v,e=.returned u/\w'=c'.w/\Ok c'/\Ext c c'/\b7 c' u v/\K v c'.rows
def kS(P:Program)(f:FuncId)(vals:List V)(rows:Rows)(K:V->Rows->Prop)(Kp:List PanicEntry->Rows->Prop):Prop:=lH P f/\∀(c:Cx) (args:Array Value),Ok c->bf.G c->c.rows=rows->dX c args.toList vals->Calls P f args c.w fun e w'=>(∃u c' v,e=.returned u/\w'=c'.w/\Ok c'/\Ext c c'/\b7 c' u v/\K v c'.rows)\/(∃ch c',e=.panicked ch/\w'=c'.w/\Ok c'/\Ext c c'/\Kp ch c'.rows)
theorem kS.of{P:Program}{f:FuncId}{vals:List V}{rows:Rows}{K:V->Rows->Prop}{Kp:List PanicEntry->Rows->Prop}(h:dn P f vals rows K):kS P f vals rows K Kp:=⟨h.1,fun c args ok hG hr ha=>(h.2 c args ok hG hr ha).mono fun _ _ hh=>.inl hh⟩
def Cf(P:Program)(f:FuncId)(vals:List V)(rows:Rows)(ch:List PanicEntry)(ups:List (Nat×bd)):Prop:=rows.length<64/\(vals.flatMap fi).isEmpty=false/\kS P f vals rows (fun _ _=>False) (fun ch' R=>ch'=ch/\R=bq rows ups)
def My(P:Program)(l:Nat)(vals:List V)(rows:Rows)(v:V)(ups:List (Nat×bd)):Prop:=rows.length<64/\(∀p∈ups,p.1<64)/\∀(c:Cx) (args:Array Value),Ok c->bf.G c->c.rows=rows->dX c args.toList vals->YieldAt Fence.wide 0 P l args c.w fun e w'=>∃u c',e=.returned u/\w'=c'.w/\Ok c'/\Ext c c'/\c'.rows=bq rows ups/\b7 c' u v
def x4(P:Program)(f:FuncId)(vals:List V)(rows:Rows)(v:V)(ups:List (Nat×bd)):Prop:=rows.length<64/\(∀p∈ups,p.1<64)/\(vals.flatMap fi).isEmpty=false/\dn P f vals rows (fun v' R=>v'=v/\R=bq rows ups)
def pW(P:Program)(fv:V)(args:List V)(rows:Rows)(K:V->List (Nat×bd)->Prop):Prop:=match fv with
 | .fn (.func f) first cap=>∃v ups,(nr P f (first++args++cap) rows v ups\/x4 P f (first++args++cap) rows v ups)/\K v ups
 | .fn (.yield l) first _=>∃v ups,My P l (first++args) rows v ups/\K v ups
 |_=>False
def iU(P:Program)(base:Nat)(s:bn)(S:St)(K:V->List (Nat×bd)->Prop):Prop:=match s.act with
 | .op o=>(o.makes=true->S.rows[base+s.hi]? =some .un)/\bU o (bw.ev S.fr) S.rows (base+s.hi) K
 | .call f args=>pW P (f.ev S.fr) (args.map (bw.ev S.fr)) S.rows K
 | .fL _=>False
def bP(P:Program)(base:Nat)(s:bn)(S:St)(K:V->List (Nat×bd)->Prop):Prop:=match s.guard with
 |none=>iU P base s S K
 |some (t,want)=>
  match nth S.fr t with
  | .d (.bool b)=>(b=want->iU P base s S K)/\(b≠want->K (.cm []) [])
  | .cm []=>K (.cm []) []
  |_=>False
def ki(g:Option (Nat×Bool))(fr:List V):Prop:=match g with
 |none=>True
 |some (t,want)=>nth fr t=.d (.bool want)
def KL(P:Program)(s:bn)(S:St)(K:V->Rows->Prop):Prop:=match s.act with
 | .call f args=>
  ki s.guard S.fr/\
  match f.ev S.fr with
  | .fn (.func g) first cap=>dn P g (first++args.map (bw.ev S.fr)++cap) S.rows K
  |_=>False
 |_=>False
def oM(P:Program)(s:bn)(S:St)(Kp:List PanicEntry->List (Nat×bd)->Prop):Prop:=ki s.guard S.fr/\match s.act with
 | .fL x=>
  match x.ev S.fr with
  | .gV T (.agg a)=>Kp [{v:=.iface T (.agg a),recovered:=false}] []
  |_=>False
 | .call f args=>
  match f.ev S.fr with
  | .fn (.func g) first cap=>∃ch ups,(lh P g (first++args.map (bw.ev S.fr)++cap) S.rows ch ups\/Cf P g (first++args.map (bw.ev S.fr)++cap) S.rows ch ups)/\Kp ch ups
  |_=>False
 |_=>False
def qt(P:Program)(s:bn)(S:St)(K:V->Rows->Prop)(Kp:List PanicEntry->Rows->Prop):Prop:=match s.act with
 | .call f args=>
  ki s.guard S.fr/\
  match f.ev S.fr with
  | .fn (.func g) first cap=>kS P g (first++args.map (bw.ev S.fr)++cap) S.rows K Kp
  |_=>False
 |_=>False
def St.after(S:St)(s:bn)(v:V)(ups:List (Nat×bd)):St:=⟨eg S.fr s.dst v,bq S.rows ups⟩
def jG(P:Program)(base:Nat):List bn->(St->Prop)->St->Prop
 |[],K,S=>K S
 |s::l,K,S=>bP P base s S fun v ups=>jG P base l K (S.after s v ups)
def jf(P:Program)(base:Nat):List Bool->List bn->(St->Prop)->St->Prop
 |_,[],K,S=>K S
 |true::fl,s::l,K,S=>KL P s S fun v rows'=>jf P base fl l K ⟨eg S.fr s.dst v,rows'⟩
 |false::fl,s::l,K,S=>bP P base s S fun v ups=>jf P base fl l K (S.after s v ups)
 |[],s::l,K,S=>bP P base s S fun v ups=>jf P base [] l K (S.after s v ups)
def Marks(n:Nat)(c:Cx):List Deferred->Prop
 |[]=>True
 |d::ds=>(∃D,d={target:=.collected D,args:= #[]}/\n<=D/\c.w.heap[D]? =some (.deferred (some []))/\(∀h,c.ρ h≠some D)/\¬c.I D/\∀d'∈ds,d'.target≠ .collected D)/\Marks n c ds
theorem Marks.mono{n:Nat}{c c':Cx}(hx:Ext c c'):∀{ds:List Deferred},Marks n c ds->Marks n c' ds
 |[],_=>trivial
 |_::_,⟨⟨D,h1,h2,h3,h4,h5,h6⟩,h⟩=>by
  have hD:D<c.w.heap.size:=(Array.getElem?_eq_some_iff.1 h3).1;refine⟨⟨D,h1,h2,(hx.l9 D hD h4).trans h3,fun h hh=>?_,fun hI=>?_,h6⟩,Marks.mono hx h⟩
  ·rcases hx.new h D hh with h7|h7
   ·exact h4 h h7
   ·omega
  ·rcases hx.qf D hI with h7|h7|⟨g,h7⟩
   ·exact h5 h7
   ·omega
   ·exact h4 g h7
theorem Marks.less{n:Nat}{c c':Cx}(hw:c'.w=c.w)(hρ:∀h b,c'.ρ h=some b->∃g,c.ρ g=some b)(hI:∀b,c'.I b->c.I b\/∃g,c.ρ g=some b):∀{ds:List Deferred},Marks n c ds->Marks n c' ds
 |[],_=>trivial
 |_::_,⟨⟨D,h1,h2,h3,h4,h5,h6⟩,h⟩=>⟨⟨D,h1,h2,by rw[hw];exact h3,fun h hh=>(hρ h D hh).elim fun g hg=>h4 g hg,fun hh=>(hI D hh).elim h5 fun⟨g,hg⟩=>h4 g hg,h6⟩,Marks.less hw hρ hI h⟩
def Sat(c0:Cx)(S:St)(a:Act)(w:World):Prop:=∃ρ I,Ok ⟨ρ,I,S.rows,w⟩/\Ext c0 ⟨ρ,I,S.rows,w⟩/\Marks c0.w.heap.size ⟨ρ,I,S.rows,w⟩ a.defers/\S.fr.length<=a.tmps.size/\∀i,b7 ⟨ρ,I,S.rows,w⟩ (a.tmps.getD i undef) (nth S.fr i)
theorem ox(l:List V)(i j:Nat)(v:V):nth (jS l i v) j=if i=j/\j<l.length then v else nth l j:=by
 induction l generalizing i j with
 |nil=>simp[jS,nth]
 |cons x l ih=>
  cases i with
  |zero=>cases j<;>simp[jS,nth]
  |succ i=>
   cases j with
   |zero=>simp[jS,nth]
   |succ j=>simp[jS,nth,ih]
theorem iM(l:List V)(i:Nat)(v:V):(jS l i v).length=l.length:=by
 induction l generalizing i with
 |nil=>rfl
 |cons x l ih=>cases i<;>simp[jS,ih]
theorem kW(l:List V)(i:Nat)(h:l.length<=i):nth l i=.any:=by
 induction l generalizing i with
 |nil=>rfl
 |cons x l ih=>
  cases i with
  |zero=>simp at h
  |succ i=>exact ih i (by simpa using h)
theorem Sat.put{c0:Cx}{S:St}{a:Act}{w:World}{ρ:Nat->Option Nat}{I:Nat->Prop}{rows:Rows}(ok:Ok ⟨ρ,I,rows,w⟩)(hx:Ext c0 ⟨ρ,I,rows,w⟩)(hd:Marks c0.w.heap.size ⟨ρ,I,rows,w⟩ a.defers)(hl:S.fr.length<=a.tmps.size) (hf:∀i,b7 ⟨ρ,I,rows,w⟩ (a.tmps.getD i undef) (nth S.fr i)) (dst:Option Nat) {u:Value} {v:V} (hu:b7 ⟨ρ,I,rows,w⟩ u v):Sat c0 ⟨eg S.fr dst v,rows⟩ (a.put dst u) w:=by
 refine⟨ρ,I,ok,hx,?_,?_,fun i=>?_⟩
 ·cases dst<;>exact hd
 ·cases dst with
  |none=>exact hl
  |some d=>simp[Act.put,eg,iM];exact hl
 ·cases dst with
  |none=>exact hf i
  |some d=>
   have:=hf i;simp only[Act.put,eg,ox,au,Array.getElem?_setIfInBounds]at this|-;by_cases hdi:d=i
   ·subst hdi;by_cases hlt:d<S.fr.length
    ·have h1:d<a.tmps.size:=om;simp only[hlt,h1,and_self,if_true,Option.getD_some];exact hu
    ·simp only[hlt,and_false,if_false];rw[kW _ _ om];exact .any _
   ·simp only[hdi,false_and,if_false];exact this
end
section
variable{P:Program}{c:Cx}
theorem jr{I:Nat->Prop}{w:World}{u:Value}{v:V}(h:b7 (bare I w) u v)(ρ:Nat->Option Nat)(rows:Rows):b7 ⟨ρ,I,rows,w⟩ u v:=by
 induction h with
 |any v=>exact .any v
 |d v x h=>exact .d v x h
 |cl sz h n off len cap b o es arr ty fz hrow=>simp[bare]at hrow
 |c8 sz h hrow=>simp[bare]at hrow
 |cW v sz h n off len hv hs=>rcases hs with hs|⟨_,_,hs,_⟩<;>simp[bare]at hs
 |aY sz h n i off b es hrow=>simp[bare]at hrow
 |cD v sz h n i off hv hs=>rcases hs with hs|⟨_,_,hs,_⟩<;>simp[bare]at hs
 |oh v h k b o hrow=>simp[bare]at hrow
 |agg vs cs hlen hrep ih=>exact .agg vs cs hlen ih
 |cm vs cs hlen hrep ih=>exact .cm vs cs hlen ih
 |fn f fs cps first cap hf hc hfr hcr ih1 ih2=>exact .fn f fs cps first cap hf hc ih1 ih2
 |gV v T u h=>exact .gV v T u h
theorem g9{u:Value}{v:V}(h:b7 c u v)(hn:gn v=true):b7 (bare c.I c.w) u v:=by
 cases h with
 |any=>exact .any _
 |d _ _ h=>exact .d _ _ h
 |gV _ _ _ h=>exact .gV _ _ _ h
 |_=>simp[gn]at hn
theorem m0{u:Value}{v:V}(h:b7 c u v)(hn:lY v=true):b7 (bare c.I c.w) u v:=by
 cases h with
 |any=>exact .any _
 |d _ _ h=>exact .d _ _ h
 |agg vs cs hlen hrep=>simp only[lY,aG]at hn;exact .agg vs cs hlen fun j v x h1 h2=>g9 (hrep j v x h1 h2) (hn v (af h1))
 |cm vs cs hlen hrep=>simp only[lY,aG]at hn;exact .cm vs cs hlen fun j v x h1 h2=>g9 (hrep j v x h1 h2) (hn v (af h1))
 |fn f fs cps first cap hf hc hfr hcr=>simp only[lY,av,aG]at hn;exact .fn f fs cps first cap hf hc (fun j v x h1 h2=>g9 (hfr j v x h1 h2) (hn.1 v (af h1))) (fun j v x h1 h2=>g9 (hcr j v x h1 h2) (hn.2 v (af h1)))
 |gV _ _ _ h=>exact .gV _ _ _ h
 |_=>simp[lY,gn]at hn
theorem jE{u:Value}{v:V}(h:b7 c u v)(hn:kv v=true):b7 (bare c.I c.w) u v:=by
 cases h with
 |any=>exact .any _
 |d _ _ h=>exact .d _ _ h
 |agg vs cs hlen hrep=>simp only[kv,aG]at hn;exact .agg vs cs hlen fun j v x h1 h2=>m0 (hrep j v x h1 h2) (hn v (af h1))
 |cm vs cs hlen hrep=>simp only[kv,aG]at hn;exact .cm vs cs hlen fun j v x h1 h2=>m0 (hrep j v x h1 h2) (hn v (af h1))
 |fn f fs cps first cap hf hc hfr hcr=>simp only[kv,av,aG]at hn;exact .fn f fs cps first cap hf hc (fun j v x h1 h2=>m0 (hfr j v x h1 h2) (hn.1 v (af h1))) (fun j v x h1 h2=>m0 (hcr j v x h1 h2) (hn.2 v (af h1)))
 |gV _ _ _ h=>exact .gV _ _ _ h
 |_=>simp[kv,gn]at hn
theorem AB{I:Nat->Prop}{w:World}(h:GW I w):Pz (bare I w):=⟨fun h o hr=>by simp[bare]at hr,h⟩
theorem zH(ok:Ok c):Ok (bare c.I c.w):=⟨by simp[bare],by simp[bare],by simp[bare],by simp[bare],ok.jP,AB ok.g.pz⟩
def seen(c:Cx):Nat->Prop:=fun b=>c.I b\/∃h,c.ρ h=some b
theorem mR(ok:Ok c):Ok (bare (seen c) c.w):=⟨by simp[bare],by simp[bare],by simp[bare],by simp[bare],fun b hb=>by
 rcases hb with hb|⟨h,hb⟩
 ·exact ok.jP b hb
 ·exact(ok.own h b hb).1,AB (ok.g.pz.mono (fun _ h=>.inl h) (fun _ _=>rfl))⟩
theorem fH{I I':Nat->Prop}{w:World}(hI:∀b,I b->I' b){u:Value}{v:V}(h:b7 (bare I w) u v):b7 (bare I' w) u v:=by
 induction h with
 |any v=>exact .any v
 |d v x h=>exact .d v x (h.mono hI (fun _ _=>rfl))
 |cl sz h n off len cap b o es arr ty fz hrow=>simp[bare]at hrow
 |c8 sz h hrow=>simp[bare]at hrow
 |cW v sz h n off len hv hs=>rcases hs with hs|⟨_,_,hs,_⟩<;>simp[bare]at hs
 |aY sz h n i off b es hrow=>simp[bare]at hrow
 |cD v sz h n i off hv hs=>rcases hs with hs|⟨_,_,hs,_⟩<;>simp[bare]at hs
 |oh v h k b o hrow=>simp[bare]at hrow
 |agg vs cs hlen hrep ih=>exact .agg vs cs hlen ih
 |cm vs cs hlen hrep ih=>exact .cm vs cs hlen ih
 |fn f fs cps first cap hf hc hfr hcr ih1 ih2=>exact .fn f fs cps first cap hf hc ih1 ih2
 |gV v T u h=>exact .gV v T u h
theorem jO(ok:Ok c){J:Nat->Prop}(hJ:∀b,c.I b->J b){u:Value}{v:V}(h:b7 c u v)(hs:eu c.rows v)(hg:∀g∈fe v,∀b,c.ρ g=some b->J b):b7 (bare J c.w) u (eR c.rows v):=by
 cases v with
 |cl sz g n off len=>
  obtain⟨hle,es,hrow,hn,hd⟩:=hs;simp only[eR,hrow];rcases gQ h ⟨es,hrow,hn⟩with⟨rfl,rfl,rfl,rfl,hρ⟩|⟨cap,b,o,arr,ty,fz,rfl,hρ,hb,ho,hcap,hlc,hlen⟩
  ·have hes:es=[]:=aQ hn;subst hes;exact .d _ _ (.lT _)
  ·obtain⟨arr',ty',fz',hb',hfz,hc⟩:=fj ok hrow hρ;rw[hb]at hb';injection hb' with hb';injection hb' with e1 e2 e3;subst e1 e2 e3
   have hll:(((es.drop off).take len).map (·.map sP)).length=len:=by simp;omega
   by_cases hl0:len=0
   ·subst hl0;simp only[List.take_zero,List.map_nil];exact .d _ _ (.kK _ _ _)
   ·have ho':=ho.resolve_right om;subst ho';have key:∀(i j:Nat) (e:List D) (v:D),(((es.drop off).take len).map (·.map sP))[i]? =some e->e[j]? =some v->∃x,arr[off*sz+(i*sz+j)]? =some x/\dV J c.w x v:=by
     intro i j e v h1 h2;simp only[ar]at h1;obtain⟨e0,h3,rfl⟩:=aa.1 h1;rw[List.getElem?_take]at h3;split at h3
     ·rw[List.getElem?_drop]at h3;simp only[ar]at h2;obtain⟨v0,h4,rfl⟩:=aa.1 h2;obtain⟨x,hx,hr⟩:=hc.2.2 _ _ _ _ h3 h4;refine⟨x,by rw[Nat.add_mul,Nat.add_assoc]at hx;exact hx,?_⟩;have hdv:=hd e0 (af h3) v0 (af h4);cases v0 with
      |d y=>
       cases hr with|d _ _ hr=>
       exact hr.mono (hJ) (fun _ _=>rfl)
      |_=>simp[wD]at hdv
     ·cases h3
    have hrep:=dV.sl (I:=J) (w:=c.w) sz (((es.drop off).take len).map (·.map sP)) b (off*sz) cap (fun i j=>arr.getD (off*sz+(i*sz+j)) undef) om (hg g (by simp[fe]) b hρ) (fun e he=>by obtain⟨e0,h0,rfl⟩:=aw.1 he;simpa using(hc.1 e0 (List.mem_of_mem_drop (List.mem_of_mem_take h0))).1)
     (fun i e j v h1 h2=>by obtain⟨x,hx,_⟩:=key i j e v h1 h2;rw[cell_of hb,hx];simp[au,hx])
     (fun i e j v h1 h2=>by obtain⟨x,hx,hr⟩:=key i j e v h1 h2;simpa[au,hx]using hr)
    rw[hll]at hrep;exact .d _ _ hrep
 |any=>exact .any _
 |d x=>exact fH (hJ) (g9 h rfl)
 |aY sz g n i off=>
  obtain⟨es,e,hrow,hn,he,hle,hd⟩:=hs;obtain⟨b,hρ,rfl⟩:=jM h ⟨es,hrow,hn⟩;obtain⟨arr,ty,fz,hb,hfz,hc⟩:=fj ok hrow hρ;simp only[eR,hrow,he];have key:∀(j:Nat) (y:D),((e.drop off).map sP)[j]? =some y->∃x,arr[i*sz+(off+j)]? =some x/\dV J c.w x y:=by
   intro j y h2;simp only[ar,List.getElem?_drop]at h2;obtain⟨v0,h4,rfl⟩:=aa.1 h2;obtain⟨u,hu,hr⟩:=hc.2.2 _ _ _ _ he h4;refine⟨u,hu,?_⟩;have hdv:=hd v0 (af h4);cases v0 with
   |d y=>
    cases hr with|d _ _ hr=>
    exact hr.mono hJ (fun _ _=>rfl)
   |_=>simp[wD]at hdv
  refine .d _ _ (dV.ptr (I:=J) (w:=c.w) ((e.drop off).map sP) b (i*sz+off) (fun j=>arr.getD (i*sz+(off+j)) undef) (hg g (by simp[fe]) b hρ) (fun j v h1=>?_) (fun j v h1=>?_))
  ·obtain⟨x,hx,_⟩:=key j v h1;rw[cell_of hb,Nat.add_assoc,hx];simp[au,hx]
  ·obtain⟨x,hx,hr⟩:=key j v h1;simpa[au,hx]using hr
 |agg cs=>exact fH hJ (jE h hs)
 |cm cs=>exact fH hJ (jE h hs)
 |fn f a b=>exact fH hJ (jE h hs)
 |gV=>exact fH hJ (jE h hs)
theorem nP(ok:Ok c){J:Nat->Prop}(hJ:∀b,c.I b->J b){u:Value}{v:V}(h:b7 c u v)(hs:dN c.rows v)(hg:∀g∈fi v,∀b,c.ρ g=some b->J b):b7 (bare J c.w) u (dJ c.rows v):=by
 cases v with
 |agg cs=>
  cases h with|agg vs _ hlen hrep=>
  refine .agg vs _ (by simpa using hlen) fun j v x h1 h2=>?_;simp only[ar]at h1;obtain⟨v0,h3,rfl⟩:=aa.1 h1;exact jO ok hJ (hrep j v0 x h3 h2) (hs v0 (af h3)) fun g hh=>hg g (by simp only[fi,List.mem_flatMap];exact⟨v0,af h3,hh⟩)
 |cl=>exact jO ok hJ h hs hg
 |any=>exact .any _
 |d x=>exact fH (hJ) (g9 h rfl)
 |aY=>exact jO ok hJ h hs hg
 |cm vs=>exact fH (hJ) (jE h hs)
 |gV=>exact fH (hJ) (jE h hs)
 |fn f a b=>
  cases h with|fn _ fs cps _ _ hf hc hfr hcr=>
  refine .fn f fs cps _ _ (by simpa using hf) (by simpa using hc) (fun j v x h1 h2=>?_) (fun j v x h1 h2=>?_)
  ·simp only[ar]at h1;obtain⟨v0,h3,rfl⟩:=aa.1 h1;exact jO ok hJ (hfr j v0 x h3 h2) (hs.1 v0 (af h3)) fun g hh=>hg g (by simp only[fi,List.mem_flatMap,aU];exact⟨v0,.inl (af h3),hh⟩)
  ·simp only[ar]at h1;obtain⟨v0,h3,rfl⟩:=aa.1 h1;exact jO ok hJ (hcr j v0 x h3 h2) (hs.2 v0 (af h3)) fun g hh=>hg g (by simp only[fi,List.mem_flatMap,aU];exact⟨v0,.inr (af h3),hh⟩)
theorem Bc(ok:Ok c){u:Value}{v:V}(h:b7 c u v)(hs:dN c.rows v):b7 (bare (seen c) c.w) u (dJ c.rows v):=nP ok (fun b hb=>.inl hb) h hs fun g _ b hb=>.inr ⟨g,hb⟩
theorem tq{c c':Cx}{u:Value}{v:V}(h:b7 c u v)(hs:xN v=true):b7 c' u v:=by
 cases h with
 |d _ _ h=>
  cases h<;>first
   |(simp[xN]at hs;done)
   |exact .d _ _ (.int _ _)
   |exact .d _ _ (.bool _)
   |exact .d _ _ (.str _)
 |_=>simp[xN]at hs
theorem D7{c c':Cx}{u:Value}{v:V}(h:b7 c u v)(hs:Hd v=true):b7 c' u v:=by
 cases v with
 |cm vs=>
  cases h with|cm us _ hlen hrep=>
  simp only[Hd,aG]at hs;exact .cm us vs hlen fun j v x h1 h2=>tq (hrep j v x h1 h2) (hs v (af h1))
 |_=>exact tq h hs
theorem vc(ok:Ok c){I':Nat->Prop}{w':World}(hx:Ext (bare c.I c.w) (bare I' w'))(ok':Ok (bare I' w')):Ok ⟨c.ρ,I',c.rows,w'⟩/\Ext c ⟨c.ρ,I',c.rows,w'⟩:=by
 have hkeep:∀b,b<c.w.heap.size->w'.heap[b]? =c.w.heap[b]? :=fun b hb=>hx.l9 b hb (by simp[bare]);have hsz:c.w.heap.size<=w'.heap.size:=hx.size;have hI:∀b,I' b->c.I b\/c.w.heap.size<=b:=fun b hb=>by
  rcases hx.qf b hb with h|h|⟨_,h⟩
  ·exact .inl h
  ·exact .inr h
  ·simp[bare]at h
 have hxx:Ext c ⟨c.ρ,I',c.rows,w'⟩:=⟨hx.os,hx.tape,hx.output,hx.size,fun b hb _=>hkeep b hb,hx.jP,fun b hb=>by
  rcases hI b hb with h|h
  ·exact .inl h
  ·exact .inr (.inl h),fun _ _ h=>.inl h,
  fun h=>bK.of_eq rfl rfl (fun b hb=>hkeep b (ok.own _ _ hb).1)⟩
 refine⟨⟨ok.inj,fun h b hb=>?_,fun h b sz es hb hr=>?_,ok.je,ok'.jP,.step ok hxx fun h o hr=>⟨hr,rfl,fun b hb=>hkeep b (ok.own h b hb).1⟩⟩,hxx⟩
 ·obtain⟨h1,h2,h3⟩:=ok.own h b hb;refine⟨Nat.lt_of_lt_of_le h1 hsz,fun hi=>?_,h3⟩;rcases hI b hi with h|h
  ·exact h2 h
  ·omega
 ·obtain⟨arr,ty,fz,h1,h2,h3⟩:=ok.cont h b sz es hb hr;exact⟨arr,ty,fz,(hkeep b (ok.own _ _ hb).1).trans h1,h2,h3.mono hxx ok⟩
theorem lF:∀(l:List Nat) (rows:Rows) (g:Nat),(bq rows (l.map fun h=>(h,bd.dead)))[g]? =if g∈l/\g<rows.length then some .dead else rows[g]?
 |[],rows,g=>by simp[bq]
 |h::l,rows,g=>by
  simp only[List.map_cons,bq];rw[lF l,List.length_set,List.getElem?_set];by_cases hl:g<rows.length
  ·by_cases h2:g=h
   ·subst h2;by_cases h1:g∈l<;>simp[h1,hl]
   ·by_cases h1:g∈l<;>simp[h1,hl,h2,Ne.symm h2]
  ·have e:rows[g]? =none:=aA om;by_cases h2:h=g
   ·subst h2;simp[hl]
   ·simp[hl,h2]
def fK(c:Cx)(l:List Nat):Cx:=⟨fun h=>if h∈l then none else c.ρ h,fun b=>c.I b\/∃h∈l,c.ρ h=some b,bq c.rows (l.map fun h=>(h,bd.dead)),c.w⟩
theorem zI(ok:Ok c)(l:List Nat):Ok (fK c l)/\Ext c (fK c l):=by
 have hρ:∀h b,(fK c l).ρ h=some b->h∉l/\c.ρ h=some b:=fun h b hb=>by
  simp only[fK]at hb;split at hb
  ·cases hb
  ·rename_i hn;exact⟨hn,hb⟩
 have hrow:∀g,(fK c l).rows[g]? =if g∈l/\g<c.rows.length then some .dead else c.rows[g]? :=fun g=>lF l c.rows g
 have hx:Ext c (fK c l):=by
  refine⟨rfl,rfl,rfl,aq _,fun _ _ _=>rfl,fun b hb=>.inl hb,fun b hb=>?_,fun h b hb=>.inl (hρ h b hb).2,fun h=>?_⟩
  ·rcases hb with hb|⟨h,_,hb⟩
   ·exact .inl hb
   ·exact .inr (.inr ⟨h,hb⟩)
  ·by_cases hh:h∈l/\h<c.rows.length
   ·have e:=hrow h;rw[if_pos hh]at e;unfold bK;rw[e];split
    ·trivial
    ·exact⟨_,rfl⟩
    ·rfl
    ·exact .inl rfl
    ·exact .inl rfl
   ·have e:=hrow h;rw[if_neg hh]at e;cases hg:c.rows[h]? with
    |none=>unfold bK;simp only[hg]
    |some r=>refine bK.of_eq e ?_ (fun _ _=>rfl);have hlt:=(ad.1 hg).1;simp only[fK];rw[if_neg (fun hm=>hh ⟨hm,hlt⟩)]
 refine⟨⟨fun h h' b h1 h2=>ok.inj h h' b (hρ _ _ h1).2 (hρ _ _ h2).2,fun h b hb=>?_,fun h b sz es hb hr=>?_,fun h sz es hn hr=>?_,fun b hb=>?_,.step ok hx fun h o hr=>?_⟩,hx⟩
 ·obtain⟨hn,hb'⟩:=hρ h b hb;obtain⟨h1,h2,r,h3,h4⟩:=ok.own h b hb';refine⟨h1,fun hI=>?_,r,by rw[hrow,if_neg (fun e=>hn e.1)];exact h3,h4⟩;rcases hI with hI|⟨g,hg,hI⟩
  ·exact h2 hI
  ·exact hn (ok.inj _ _ _ hI hb'▸hg)
 ·obtain⟨hn,hb'⟩:=hρ h b hb;rw[hrow,if_neg (fun e=>hn e.1)]at hr;obtain⟨arr,ty,fz,h1,h2,h3⟩:=ok.cont h b sz es hb' hr;exact⟨arr,ty,fz,h1,h2,h3.mono hx ok⟩
 ·rw[hrow]at hr;split at hr
  ·cases hr
  ·rename_i hh;have hlt:=(ad.1 hr).1;refine ok.je h sz es ?_ hr;simp only[fK]at hn
   rwa [if_neg (fun hm=>hh ⟨hm,hlt⟩)]at hn
 ·rcases hb with hb|⟨h,_,hb⟩
  ·exact ok.jP b hb
  ·exact(ok.own h b hb).1
 ·rw[hrow]at hr;split at hr
  ·simp at hr
  ·rename_i hh;have hlt:=(ad.1 hr).1;exact⟨hr,by simp only[fK];rw[if_neg (fun hm=>hh ⟨hm,hlt⟩)],fun _ _=>rfl⟩
theorem wG(ok:Ok c){f:FuncId}{vals:List V}{v:V}{args:Array Value}(hargs:dX c args.toList vals)(h:zR P f vals c.rows v):Calls P f args c.w fun e w'=>∃u c',e=.returned u/\w'=c'.w/\Ok c'/\Ext c c'/\c'.rows=c.rows/\b7 c' u v:=by
 rcases h with⟨hn,h⟩|⟨hs,hsc,h⟩
 ·refine(h.2 c.I c.w args (zH ok) ⟨hargs.1,fun j v x h1 h2=>jE (hargs.2 j v x h1 h2) (hn v (af h1))⟩).mono ?_;rintro e w' ⟨u,I',he,ok',hx,hr⟩;obtain⟨h1,h2⟩:=vc ok hx ok';exact⟨u,_,he,rfl,h1,h2,rfl,jr hr _ _⟩
 ·refine(h.2 (seen c) c.w args (mR ok) ⟨by simpa using hargs.1,fun j v x h1 h2=>?_⟩).mono ?_
  ·simp only[ar]at h1;obtain⟨v0,h3,rfl⟩:=aa.1 h1;exact Bc ok (hargs.2 j v0 x h3 h2) (hs v0 (af h3))
  ·rintro e w' ⟨u,I',he,ok',hx,hr⟩;have hx2:Ext (bare c.I c.w) (bare c.I w'):=⟨hx.os,hx.tape,hx.output,hx.size,fun b hb _=>hx.l9 b hb (by simp[bare]),fun _ h=>h,fun _ h=>.inl h,fun h b hb=>by simp[bare]at hb,fun h=>by unfold bK;simp[bare]⟩;have ok2:Ok (bare c.I w'):=⟨by simp[bare],by simp[bare],by simp[bare],by simp[bare],fun b hb=>Nat.lt_of_lt_of_le (ok.jP b hb) hx.size,AB (ok.g.pz.mono (fun _ h=>h) fun b hb=>hx.l9 b (ok.jP b hb) (by simp[bare]))⟩;obtain⟨h1,h2⟩:=vc ok hx2 ok2;exact⟨u,_,he,rfl,h1,h2,rfl,D7 hr hsc⟩
theorem we(ok:Ok c){f:FuncId}{vals:List V}{v:V}{args:Array Value}(hargs:dX c args.toList vals)(h:Jn P f vals c.rows v):Calls P f args c.w fun e w'=>∃u c',e=.returned u/\w'=c'.w/\Ok c'/\Ext c c'/\c'.rows=bq c.rows (DN vals)/\b7 c' u v:=by
 obtain⟨hs,h⟩:=h;obtain⟨okk,hxk⟩:=zI ok (vals.flatMap fi);refine(h.2 (fK c (vals.flatMap fi)).I c.w args (zH okk) ⟨by simpa using hargs.1,fun j v x h1 h2=>?_⟩).mono ?_
 ·simp only[ar]at h1;obtain⟨v0,h3,rfl⟩:=aa.1 h1;exact nP ok (fun b hb=>.inl hb) (hargs.2 j v0 x h3 h2) (hs v0 (af h3)) fun g hg b hb=>.inr ⟨g,List.mem_flatMap.2 ⟨v0,af h3,hg⟩,hb⟩
 ·rintro e w' ⟨u,I',he,ok',hx,hr⟩;obtain⟨h1,h2⟩:=vc okk hx ok';exact⟨u,_,he,rfl,h1,hxk.trans h2,rfl,jr hr _ _⟩
theorem kR(h0:Nat):∀l:List V,cY h0 l=l.map (cJ h0)
 |[]=>rfl
 |v::l=>by simp[cY,kR h0 l]
theorem zZ:∀{l:List V},AM l=true->∀v∈l,hZ v=true
 |[],_,v,hv=>by simp at hv
 |x::l,h,v,hv=>by
  simp only[AM,av]at h;rcases aP.1 hv with rfl|hv
  ·exact h.1
  ·exact zZ h.2 v hv
def kT(c:Cx)(h0 sz:Nat)(es:List (List V)):Cx:=⟨fun h=>if h=0 then c.ρ h0 else none,c.I,[.live sz es],c.w⟩
theorem xc{h0 sz:Nat}{es:List (List V)}(hrow:c.rows[h0]? =some (.live sz es)){u:Value}{v:V}(h:b7 c u v):∀v',cJ h0 v'=v->hZ v'=true->b7 (kT c h0 sz es) u v':=by
 have hst:∀{n:Nat},kI c.rows h0 n->kI [bd.live sz es] 0 n:=fun{n} hs=>by
  rcases hs with hs|⟨sz',es',hs,hn⟩
  ·rw[hrow]at hs;cases hs
  ·rw[hrow]at hs;injection hs with hs;injection hs with e1 e2;subst e1 e2
   exact .inr ⟨sz,es,rfl,hn⟩
 have hlist:∀{l l':List V},cY h0 l'=l->AM l'=true->l'.length=l.length/\∀(j:Nat) (x':V),l'[j]? =some x'->∃x,l[j]? =some x/\cJ h0 x'=x/\hZ x'=true:=by intro l l' e hz;subst e;rw[kR];refine⟨sm,fun j x' hx=>⟨cJ h0 x',by simp[hx],rfl,zZ hz x' (af hx)⟩⟩
 induction h with
 |any v=>intro v' hv _;cases v'<;>simp[cJ]at hv;exact .any _
 |d v x h=>intro v' hv _;cases v'<;>simp[cJ]at hv;subst hv;exact .d _ _ h
 |gV v T u h=>intro v' hv _;cases v'<;>simp[cJ]at hv;obtain⟨rfl,rfl⟩:=hv;exact .gV _ _ _ h
 |cl sz1 h n off len cap b o es1 arr ty fz hr hn hρ hb ho hcap hlc hlen=>
  intro v' hv hz;cases v'<;>simp[cJ]at hv;obtain⟨rfl,rfl,rfl,rfl,rfl⟩:=hv;simp only[hZ,beq_iff_eq]at hz;subst hz;rw[hrow]at hr;injection hr with hr;injection hr with e1 e2;subst e1 e2
  exact .cl _ 0 _ _ _ cap b o es arr ty fz rfl hn (by simp[kT,hρ]) hb ho hcap hlc hlen
 |c8 sz1 h hr hρ=>
  intro v' hv hz;cases v'<;>simp[cJ]at hv;obtain⟨rfl,rfl,rfl,rfl,rfl⟩:=hv;simp only[hZ,beq_iff_eq]at hz;subst hz;rw[hrow]at hr;injection hr with hr;injection hr with e1 e2;subst e1 e2
  exact .c8 _ 0 rfl (by simp[kT,hρ])
 |cW v sz1 h n off len vQ hs=>intro v' hv hz;cases v'<;>simp[cJ]at hv;obtain⟨rfl,rfl,rfl,rfl,rfl⟩:=hv;simp only[hZ,beq_iff_eq]at hz;subst hz;exact .cW _ _ 0 _ _ _ vQ (hst hs)
 |aY sz1 h n i off b es1 hr hn hρ=>
  intro v' hv hz;cases v'<;>simp[cJ]at hv;obtain⟨rfl,rfl,rfl,rfl,rfl⟩:=hv;simp only[hZ,beq_iff_eq]at hz;subst hz;rw[hrow]at hr;injection hr with hr;injection hr with e1 e2;subst e1 e2
  exact .aY _ 0 _ _ _ b es rfl hn (by simp[kT,hρ])
 |cD v sz1 h n i off vQ hs=>intro v' hv hz;cases v'<;>simp[cJ]at hv;obtain⟨rfl,rfl,rfl,rfl,rfl⟩:=hv;simp only[hZ,beq_iff_eq]at hz;subst hz;exact .cD _ _ 0 _ _ _ vQ (hst hs)
 |oh v h k b o hr=>intro v' hv hz;cases v'<;>simp[cJ]at hv;obtain⟨rfl,rfl,rfl,rfl,rfl⟩:=hv;rw[hrow]at hr;cases hr
 |agg vs cs hlen hrep ih=>intro v' hv hz;cases v'<;>simp[cJ]at hv;obtain⟨h1,h2⟩:=hlist hv (by simpa[hZ]using hz);refine .agg vs _ om fun j x' y hx hy=>?_;obtain⟨x,h3,h4,h5⟩:=h2 j x' hx;exact ih j x y h3 hy x' h4 h5
 |cm vs cs hlen hrep ih=>intro v' hv hz;cases v'<;>simp[cJ]at hv;obtain⟨h1,h2⟩:=hlist hv (by simpa[hZ]using hz);refine .cm vs _ om fun j x' y hx hy=>?_;obtain⟨x,h3,h4,h5⟩:=h2 j x' hx;exact ih j x y h3 hy x' h4 h5
 |fn f fs cps first cap hf hc hfr hcr ih1 ih2=>
  intro v' hv hz;cases v'<;>simp[cJ]at hv;obtain⟨rfl,hva,hvb⟩:=hv;simp only[hZ,av]at hz;obtain⟨h1,h2⟩:=hlist hva hz.1;obtain⟨h3,h4⟩:=hlist hvb hz.2;refine .fn _ fs cps _ _ om om (fun j x' y hx hy=>?_) (fun j x' y hx hy=>?_)
  ·obtain⟨x,h5,h6,h7⟩:=h2 j x' hx;exact ih1 j x y h5 hy x' h6 h7
  ·obtain⟨x,h5,h6,h7⟩:=h4 j x' hx;exact ih2 j x y h5 hy x' h6 h7
theorem Mc{c1 c2:Cx}{h0 sz:Nat}{es:List (List V)}(h1:c1.rows=[.live sz es])(hrow:c2.rows[h0]? =some (.live sz es))(hρ:c1.ρ 0=c2.ρ h0)(hI:c2.I=c1.I)(hw:c2.w=c1.w){u:Value}{v:V}(h:b7 c1 u v):b7 c2 u (cJ h0 v):=by
 have h0':∀{h:Nat} {r:bd},c1.rows[h]? =some r->h=0/\r=.live sz es:=fun{h r} hr=>by
  rw[h1]at hr;cases h with
  |zero=>simp at hr;exact⟨rfl,hr.symm⟩
  |succ h=>simp at hr
 have hst:∀{h n:Nat},kI c1.rows h n->kI c2.rows h0 n:=fun{h n} hs=>by
  rcases hs with hs|⟨sz',es',hs,hn⟩
  ·have:=(h0' hs).2;cases this
  ·have:=(h0' hs).2;injection this with e1 e2;subst e1 e2
   exact .inr ⟨_,_,hrow,hn⟩
 induction h with
 |any v=>exact .any _
 |d v x h=>exact .d _ _ (by rw[hI,hw];exact h)
 |gV v T u h=>exact .gV v T u h
 |cl sz1 h n off len cap b o es1 arr ty fz hr hn hρ1 hb ho hcap hlc hlen=>
  obtain⟨rfl,e⟩:=h0' hr;injection e with e1 e2;subst e1 e2
  exact .cl _ h0 _ _ _ cap b o _ arr ty fz hrow hn (by rw[<-hρ];exact hρ1) (by rw[hw];exact hb) ho hcap hlc hlen
 |c8 sz1 h hr hρ1=>
  obtain⟨rfl,e⟩:=h0' hr;injection e with e1 e2;subst e1 e2
  exact .c8 _ h0 hrow (by rw[<-hρ];exact hρ1)
 |cW v sz1 h n off len vQ hs=>exact .cW _ _ h0 _ _ _ vQ (hst hs)
 |aY sz1 h n i off b es1 hr hn hρ1=>
  obtain⟨rfl,e⟩:=h0' hr;injection e with e1 e2;subst e1 e2
  exact .aY _ h0 _ _ _ b _ hrow hn (by rw[<-hρ];exact hρ1)
 |cD v sz1 h n i off vQ hs=>exact .cD _ _ h0 _ _ _ vQ (hst hs)
 |oh v h k b o hr=>have:=(h0' hr).2;cases this
 |agg vs cs hlen hrep ih=>simp only[cJ,kR];refine .agg vs _ (by simpa using hlen) fun j x' y hx hy=>?_;simp only[ar]at hx;obtain⟨x,h3,rfl⟩:=aa.1 hx;exact ih j x y h3 hy
 |cm vs cs hlen hrep ih=>simp only[cJ,kR];refine .cm vs _ (by simpa using hlen) fun j x' y hx hy=>?_;simp only[ar]at hx;obtain⟨x,h3,rfl⟩:=aa.1 hx;exact ih j x y h3 hy
 |fn f fs cps first cap hf hc hfr hcr ih1 ih2=>
  simp only[cJ,kR];refine .fn f fs cps _ _ (by simpa using hf) (by simpa using hc) (fun j x' y hx hy=>?_) (fun j x' y hx hy=>?_)
  ·simp only[ar]at hx;obtain⟨x,h3,rfl⟩:=aa.1 hx;exact ih1 j x y h3 hy
  ·simp only[ar]at hx;obtain⟨x,h3,rfl⟩:=aa.1 hx;exact ih2 j x y h3 hy
theorem tu{c1 c2:Cx}{sz:Nat}{es:List (List V)}{arr:Array Value}(hd:lS es)(hI:∀b,c1.I b->c2.I b)(hw:c2.w=c1.w)(h:fC c1 sz es arr):fC c2 sz es arr:=by
 refine⟨h.1,h.2.1,fun i e j v h1 h2=>?_⟩;obtain⟨x,h3,h4⟩:=h.2.2 i e j v h1 h2;refine⟨x,h3,?_⟩;have:=hd e (af h1) v (af h2);cases v with
 |d y=>
  cases h4 with|d _ _ h4=>
  exact .d _ _ (h4.mono hI (fun b _=>by rw[hw]))
 |_=>simp[wD]at this
theorem uH(ok:Ok c){h0 sz:Nat}{es:List (List V)}(hrow:c.rows[h0]? =some (.live sz es))(hd:lS es):Ok (kT c h0 sz es):=by
 have hρ:∀h b,(kT c h0 sz es).ρ h=some b->h=0/\c.ρ h0=some b:=fun h b hb=>by
  simp only[kT]at hb;split at hb
  ·rename_i e;exact⟨e,hb⟩
  ·cases hb
 refine⟨fun h h' b h1 h2=>(hρ _ _ h1).1.trans (hρ _ _ h2).1.symm,fun h b hb=>?_,fun h b sz1 es1 hb hr=>?_,fun h sz1 es1 hn hr=>?_,ok.jP,⟨fun h o hr=>?_,ok.g.pz⟩⟩
 ·obtain⟨rfl,hb⟩:=hρ h b hb;obtain⟨h1,h2,_⟩:=ok.own h0 b hb;exact⟨h1,h2,.live sz es,rfl,trivial⟩
 ·obtain⟨rfl,hb⟩:=hρ h b hb;simp only[kT,List.getElem?_cons_zero]at hr;injection hr with hr;injection hr with e1 e2;subst e1 e2
  obtain⟨arr,ty,fz,h1,h2,h3⟩:=ok.cont h0 b sz es hb hrow;exact⟨arr,ty,fz,h1,h2,tu (c1:=c) hd (fun _ h=>h) rfl h3⟩
 ·cases h with
  |zero=>
   simp only[kT,List.getElem?_cons_zero]at hr hn;injection hr with hr;injection hr with e1 e2;subst e1 e2
   exact ok.je h0 sz es (by simpa using hn) hrow
  |succ h=>simp[kT]at hr
 ·cases h<;>simp[kT]at hr
theorem wq(ok:Ok c){f:FuncId}{vals:List V}{v:V}{ups:List (Nat×bd)}{args:Array Value}(hargs:dX c args.toList vals)(h:EF P f vals c.rows v ups):Calls P f args c.w fun e w'=>∃u c',e=.returned u/\w'=c'.w/\Ok c'/\Ext c c'/\c'.rows=bq c.rows ups/\b7 c' u v:=by
 obtain⟨h0,sz,es,es',vals0,v0,hrow,hd,hd',hl,rfl,hz,hin,hm,rfl,rfl⟩:=h;have hlt:h0<c.rows.length:=(ad.1 hrow).1;refine(hm.2 (kT c h0 sz es) args (uH ok hrow hd) rfl ⟨by simpa using hargs.1,fun j x' u h1 h2=>?_⟩).mono ?_
 ·exact xc hrow (hargs.2 j (cJ h0 x') u (by simp[h1]) h2) x' rfl (hz x' (af h1))
 ·rintro e w' ⟨u,c1,he,hw,ok1,hx,hr1,hrep⟩;have hstep:=hx.rows 0;unfold bK at hstep;simp only[kT,List.getElem?_cons_zero,hr1]at hstep;have hρ0:c1.ρ 0=c.ρ h0/\∀b arr ty fz,c.ρ h0=some b->c.w.heap[b]? =some (.cells arr ty fz)->∃arr' fz',c1.w.heap[b]? =some (.cells arr' ty fz')/\arr'.size=arr.size:=by
   rcases hstep with hs|⟨es1,hs,hs2⟩
   ·simp at hs
   ·simp at hs;subst hs;rcases hs2 with hs2|⟨_,hs3,hs4⟩
    ·omega
    ·simp only[if_true]at hs3 hs4;exact⟨hs3,hs4⟩
  have hset:∀g,(bq c.rows [(h0,bd.live sz es')])[g]? =if g=h0 then some (.live sz es')else c.rows[g]? :=fun g=>by
   simp only[bq];rw[List.getElem?_set];by_cases hg:h0=g
   ·subst hg;simp[hlt]
   ·simp[hg,Ne.symm hg]
  have hkeep:∀h b,h≠h0->c.ρ h=some b->c1.w.heap[b]? =c.w.heap[b]? :=fun h b hne hb=>by
   refine hx.l9 b (ok.own h b hb).1 fun g hg=>?_;simp only[kT]at hg;split at hg
   ·exact hne (ok.inj _ _ _ hb hg)
   ·cases hg
  have hnewI:∀b,c1.I b->c.I b\/c.w.heap.size<=b\/c.ρ h0=some b:=fun b hb=>by
   rcases hx.qf b hb with h|h|⟨g,h⟩
   ·exact .inl h
   ·exact .inr (.inl h)
   ·simp only[kT]at h;split at h
    ·exact .inr (.inr h)
    ·cases h
  have hext:Ext c ⟨c.ρ,c1.I,bq c.rows [(h0,.live sz es')],c1.w⟩:=by
   refine⟨hx.os,hx.tape,hx.output,hx.size,fun b hb hn=>hx.l9 b hb fun g hg=>?_,hx.jP,fun b hb=>?_,fun _ _ h=>.inl h,fun h=>?_⟩
   ·simp only[kT]at hg;split at hg
    ·exact hn _ hg
    ·cases hg
   ·rcases hnewI b hb with h|h|h
    ·exact .inl h
    ·exact .inr (.inl h)
    ·exact .inr (.inr ⟨_,h⟩)
   ·by_cases hh:h=h0
    ·subst hh;unfold bK;rw[hrow];refine .inr ⟨es',by rw[hset];simp,.inr ⟨hl.symm,rfl,fun b arr ty fz hb hb2=>hρ0.2 b arr ty fz hb hb2⟩⟩
    ·exact bK.of_eq (by rw[hset,if_neg hh]) rfl (fun b hb=>hkeep h b hh hb)
  refine⟨u,⟨c.ρ,c1.I,bq c.rows [(h0,.live sz es')],c1.w⟩,he,hw,⟨ok.inj,fun h b hb=>?_,fun h b sz1 es1 hb hr=>?_,fun h sz1 es1 hn hr=>?_,ok1.jP,.step ok hext fun h o hr=>?_⟩,hext,rfl,?_⟩
  ·obtain⟨h1,h2,r,h3,h4'⟩:=ok.own h b hb;refine⟨Nat.lt_of_lt_of_le h1 hx.size,fun hI=>?_,?_⟩
   ·rcases hnewI b hI with h4|h4|h4
    ·exact h2 h4
    ·omega
    ·have:=ok.inj _ _ _ hb h4;subst this;exact(ok1.own 0 b (by rw[hρ0.1];exact hb)).2.1 hI
   ·by_cases hh:h=h0
    ·exact⟨.live sz es',by rw[hset,if_pos hh],trivial⟩
    ·exact⟨r,by rw[hset,if_neg hh];exact h3,h4'⟩
  ·rw[hset]at hr;by_cases hh:h=h0
   ·subst hh;rw[if_pos rfl]at hr;injection hr with hr;injection hr with e1 e2;subst e1 e2
    obtain⟨arr,ty,fz,h1,h2,h3⟩:=ok1.cont 0 b sz es' (by rw[hρ0.1];exact hb) (by rw[hr1];rfl);exact⟨arr,ty,fz,h1,h2,tu (c1:=c1) hd' (fun _ h=>h) rfl h3⟩
   ·rw[if_neg hh]at hr;obtain⟨arr,ty,fz,h1,h2,h3⟩:=ok.cont h b sz1 es1 hb hr;exact⟨arr,ty,fz,by rw[hkeep h b hh hb];exact h1,h2,h3.mono hext ok⟩
  ·rw[hset]at hr;by_cases hh:h=h0
   ·subst hh;rw[if_pos rfl]at hr;injection hr with hr;injection hr with e1 e2;subst e1 e2
    have:=ok.je h sz es hn hrow;subst this;exact aQ hl
   ·rw[if_neg hh]at hr;exact ok.je h sz1 es1 hn hr
  ·rw[hset]at hr;split at hr
   ·simp at hr
   ·rename_i hh;exact⟨hr,rfl,fun b hb=>hkeep h b hh hb⟩
  ·exact Mc (c2:=⟨c.ρ,c1.I,bq c.rows [(h0,.live sz es')],c1.w⟩) hr1 ((hset h0).trans (if_pos rfl)) hρ0.1 rfl rfl hrep
theorem uI(ok:Ok c){f:FuncId}{vals:List V}{ch:List PanicEntry}{ups:List (Nat×bd)}{args:Array Value}(hargs:dX c args.toList vals)(h:lh P f vals c.rows ch ups):Calls P f args c.w fun e w'=>∃c',e=.panicked ch/\w'=c'.w/\Ok c'/\Ext c c'/\c'.rows=bq c.rows ups:=by
 obtain⟨h0,sz,es,vals0,hrow,hd,rfl,hz,hin,hm,rfl⟩:=h;have hlt:h0<c.rows.length:=(ad.1 hrow).1;refine(hm.2 (kT c h0 sz es) args (uH ok hrow hd) rfl ⟨by simpa using hargs.1,fun j x' u h1 h2=>?_⟩).mono ?_
 ·exact xc hrow (hargs.2 j (cJ h0 x') u (by simp[h1]) h2) x' rfl (hz x' (af h1))
 ·rintro e w' ⟨c1,he,hw,ok1,hx⟩;have hset:∀g,(bq c.rows [(h0,bd.dead)])[g]? =if g=h0 then some .dead else c.rows[g]? :=fun g=>by
   simp only[bq];rw[List.getElem?_set];by_cases hg:h0=g
   ·subst hg;simp[hlt]
   ·simp[hg,Ne.symm hg]
  have hkeep:∀h b,h≠h0->c.ρ h=some b->c1.w.heap[b]? =c.w.heap[b]? :=fun h b hne hb=>by
   refine hx.l9 b (ok.own h b hb).1 fun g hg=>?_;simp only[kT]at hg;split at hg
   ·exact hne (ok.inj _ _ _ hb hg)
   ·cases hg
  have hnewI:∀b,c1.I b->c.I b\/c.w.heap.size<=b\/c.ρ h0=some b:=fun b hb=>by
   rcases hx.qf b hb with h|h|⟨g,h⟩
   ·exact .inl h
   ·exact .inr (.inl h)
   ·simp only[kT]at h;split at h
    ·exact .inr (.inr h)
    ·cases h
  have hrho:∀h b,(if h=h0 then none else c.ρ h)=some b->h≠h0/\c.ρ h=some b:=fun h b hb=>by
   by_cases hh:h=h0
   ·rw[if_pos hh]at hb;cases hb
   ·rw[if_neg hh]at hb;exact⟨hh,hb⟩
  have hext:Ext c ⟨fun h=>if h=h0 then none else c.ρ h,c1.I,bq c.rows [(h0,.dead)],c1.w⟩:=by
   refine⟨hx.os,hx.tape,hx.output,hx.size,fun b hb hn=>hx.l9 b hb fun g hg=>?_,hx.jP,fun b hb=>?_,fun h b hb=>.inl (hrho h b hb).2,fun h=>?_⟩
   ·simp only[kT]at hg;split at hg
    ·exact hn _ hg
    ·cases hg
   ·rcases hnewI b hb with h|h|h
    ·exact .inl h
    ·exact .inr (.inl h)
    ·exact .inr (.inr ⟨_,h⟩)
   ·by_cases hh:h=h0
    ·subst hh;unfold bK;rw[hrow];exact .inl (by rw[hset];simp)
    ·exact bK.of_eq (by rw[hset,if_neg hh]) (by simp[hh]) (fun b hb=>hkeep h b hh hb)
  refine⟨⟨fun h=>if h=h0 then none else c.ρ h,c1.I,bq c.rows [(h0,.dead)],c1.w⟩,he,hw,⟨fun h h' b e1 e2=>ok.inj _ _ _ (hrho h b e1).2 (hrho h' b e2).2,fun h b hb=>?_,fun h b sz1 es1 hb hr=>?_,fun h sz1 es1 hn hr=>?_,ok1.jP,.step ok hext fun h o hr=>?_⟩,hext,rfl⟩
  ·obtain⟨hne,hb⟩:=hrho h b hb;obtain⟨h1,h2,r,h3,h4'⟩:=ok.own h b hb;refine⟨Nat.lt_of_lt_of_le h1 hx.size,fun hI=>?_,⟨r,by rw[hset,if_neg hne];exact h3,h4'⟩⟩;rcases hnewI b hI with h4|h4|h4
   ·exact h2 h4
   ·omega
   ·exact hne (ok.inj _ _ _ hb h4)
  ·obtain⟨hne,hb⟩:=hrho h b hb;rw[hset,if_neg hne]at hr;obtain⟨arr,ty,fz,h1,h2,h3⟩:=ok.cont h b sz1 es1 hb hr;exact⟨arr,ty,fz,by rw[hkeep h b hne hb];exact h1,h2,h3.mono hext ok⟩
  ·rw[hset]at hr;by_cases hh:h=h0
   ·rw[if_pos hh]at hr;cases hr
   ·rw[if_neg hh]at hr;simp only[hh,if_false]at hn;exact ok.je h sz1 es1 hn hr
  ·rw[hset]at hr;split at hr
   ·cases hr
   ·rename_i hh;exact⟨hr,by simp[hh],fun b hb=>hkeep h b hh hb⟩
theorem lh.enters{f:FuncId}{vals:List V}{rows:Rows}{ch:List PanicEntry}{ups:List (Nat×bd)}(h:lh P f vals rows ch ups):lH P f:=by obtain⟨_,_,_,_,_,_,_,_,_,h,_⟩:=h;exact h.1
theorem xm(ok:Ok c){f:FuncId}{vals:List V}{v:V}{ups:List (Nat×bd)}{args:Array Value}(hargs:dX c args.toList vals)(h:nr P f vals c.rows v ups):Calls P f args c.w fun e w'=>∃u c',e=.returned u/\w'=c'.w/\Ok c'/\Ext c c'/\c'.rows=bq c.rows ups/\b7 c' u v:=by
 rcases h with⟨h,rfl⟩|⟨h,rfl⟩|h
 ·exact wG ok hargs h
 ·exact we ok hargs h
 ·exact wq ok hargs h
theorem vJ[bf](ok:Ok c)(hG:bf.G c){f:FuncId}{vals:List V}{v:V}{ups:List (Nat×bd)}{args:Array Value}(hargs:dX c args.toList vals)(h:nr P f vals c.rows v ups\/x4 P f vals c.rows v ups):Calls P f args c.w fun e w'=>∃u c',e=.returned u/\w'=c'.w/\Ok c'/\Ext c c'/\c'.rows=bq c.rows ups/\b7 c' u v:=by
 rcases h with h|⟨_,_,_,h⟩
 ·exact xm ok hargs h
 ·refine(h.2 c args ok hG rfl hargs).mono ?_;rintro e w' ⟨u,c',v',e1,e2,e3,e4,e5,rfl,e6⟩;exact⟨u,c',e1,e2,e3,e4,e6,e5⟩
theorem nr.enters{f:FuncId}{vals:List V}{rows:Rows}{v:V}{ups:List (Nat×bd)}(h:nr P f vals rows v ups):lH P f:=by
 rcases h with⟨⟨_,h,_⟩|⟨_,_,h,_⟩,_⟩|⟨⟨_,h,_⟩,_⟩|⟨_,_,_,_,_,_,_,_,_,_,_,_,_,h,_⟩
 ·exact h
 ·exact h
 ·exact h
 ·exact h.1
theorem sY[bf]{f:FuncId}{vals:List V}{rows:Rows}{v:V}{ups:List (Nat×bd)}(h:nr P f vals rows v ups\/x4 P f vals rows v ups):lH P f:=by
 rcases h with h|⟨_,_,_,h⟩
 ·exact h.enters
 ·exact h.1
end
structure DM{α:Type}(F:(α->Prop)->Prop):Prop where
 mono:∀K K':α->Prop,(∀a,K a->K' a)->F K->F K'
 JW:∀K:α->Prop,F K->∃a,F (fun x=>x=a)/\K a
section
variable{α β:Type}
theorem bG(a:α):DM (fun K:α->Prop=>K a):=⟨fun _ _ h hk=>h _ hk,fun _ h=>⟨a,rfl,h⟩⟩
theorem bH:DM (fun _:α->Prop=>False):=⟨fun _ _ _ h=>h,fun _ h=>h.elim⟩
theorem bJ{p:Prop}{F:(α->Prop)->Prop}(h:DM F):DM (fun K=>p/\F K):=⟨fun _ _ hk hp=>⟨hp.1,h.mono _ _ hk hp.2⟩,fun K hp=>let ⟨a,h1,h2⟩:=h.JW K hp.2;⟨a,⟨hp.1,h1⟩,h2⟩⟩
theorem cS{F:(β->Prop)->Prop}{G:β->(α->Prop)->Prop}(hF:DM F)(hG:∀b,DM (G b)):DM (fun K=>F (fun b=>G b K)):=⟨fun _ _ hk h=>hF.mono _ _ (fun b=>(hG b).mono _ _ hk) h,fun K h=>by obtain⟨b,h1,h2⟩:=hF.JW _ h;obtain⟨a,h3,h4⟩:=(hG b).JW _ h2;exact⟨a,hF.mono _ _ (fun x hx=>by subst hx;exact h3) h1,h4⟩⟩
theorem Gc{o:Option β}{p:Prop}(hp:p->∃e,o=some e){G:β->(α->Prop)->Prop}(hG:∀b,DM (G b)):DM (fun K=>p/\∀e,o=some e->G e K):=⟨fun _ _ hk h=>⟨h.1,fun e he=>(hG e).mono _ _ hk (h.2 e he)⟩,fun K h=>by obtain⟨e,he⟩:=hp h.1;obtain⟨a,h1,h2⟩:=(hG e).JW _ (h.2 e he);exact⟨a,⟨h.1,fun e' he'=>by rw[he]at he';injection he' with he';subst he';exact h1⟩,h2⟩⟩
theorem pj{l:List β}{i:Nat}{G:β->(α->Prop)->Prop}(hG:∀b,DM (G b)):DM (fun K=>i<l.length/\∀e,l[i]? =some e->G e K):=Gc (fun h=>⟨_,ae h⟩) hG
theorem kU{F G:(α->Prop)->Prop}(h:∀K,F K↔G K)(hF:DM F):DM G:=⟨fun K K' hk hg=>(h K').1 (hF.mono K K' hk ((h K).2 hg)),fun K hg=>let ⟨a,h1,h2⟩:=hF.JW K ((h K).2 hg);⟨a,(h _).1 h1,h2⟩⟩
theorem m7{rows:Rows}{h sz n:Nat}{G:List (List V)->(α->Prop)->Prop}(hG:∀b,DM (G b)):DM (fun K=>fA rows h sz n/\∀es,rows[h]? =some (.live sz es)->G es K):=⟨fun _ _ hk h=>⟨h.1,fun e he=>(hG e).mono _ _ hk (h.2 e he)⟩,fun K hh=>by obtain⟨es,he,hn⟩:=hh.1;obtain⟨a,h1,h2⟩:=(hG es).JW _ (hh.2 es he);exact⟨a,⟨hh.1,fun e' he'=>by rw[he]at he';injection he' with he';injection he' with _ he';subst he';exact h1⟩,h2⟩⟩
theorem Iu(op:BinOp)(k:IntKind)(a b:Int):DM (jR op k a b):=by show DM (fun K=>jR op k a b K);cases op<;>simp only[jR]<;>first|exact bG _|exact bJ (bG _)|exact bH
theorem IJ(op:BinOp)(a b:List UInt8):DM (ko op a b):=by show DM (fun K=>ko op a b K);cases op<;>simp only[ko]<;>first|exact bG _|exact bJ (bG _)|exact bH
theorem Aw(op:BinOp)(x y:V):DM (fX op x y):=by
 have e:∀K,fX op x y K=fX op x y K:=fun _=>rfl;unfold fX;split
 ·split
  ·exact bJ (bG _)
  ·exact bJ (bG _)
  ·exact bJ (Iu _ _ _ _)
 ·exact IJ _ _ _
 ·exact bH
theorem CI(op:UnOp)(x:V):DM (Jv op x):=by unfold Jv;split<;>first|exact bG _|exact bH
theorem eH(v:V)(sz:Nat):DM (di v sz):=by unfold di;split<;>first|exact bJ (bJ (bG _))|exact bJ (bG _)|exact bH
theorem o9(ev:bw->V):∀(ps:List (Nat×Nat×bw)) (cells:List V),DM (iW ev ps cells)
 |[],cells=>bG _
 |(off,sz,x)::ps,cells=>by show DM (fun K=>iW ev ((off,sz,x)::ps) cells K);simp only[iW];exact bJ (cS (eH _ _) fun cs=>o9 ev ps _)
theorem se(ev:bw->V)(sz:Nat):∀(ps:List (Nat×bw)) (es:List (List V)),DM (gl ev sz ps es)
 |[],cells=>bG _
 |(i,x)::ps,es=>by show DM (fun K=>gl ev sz ((i,x)::ps) es K);simp only[gl];exact bJ (cS (eH _ _) fun cs=>se ev sz ps _)
theorem fp(v:V):DM (lV v):=by unfold lV;split<;>first|exact bG _|exact bH
theorem eC(ev:bw->V)(o:Option bw)(d:Int):DM (jT ev o d):=by
 unfold jT;split
 ·exact bG _
 ·exact fp _
theorem jq(rows:Rows)(sz:Nat)(v:V):DM (eF rows sz v):=by
 unfold eF;split
 ·exact bG _
 ·exact bJ (bG _)
 ·exact bJ (bG _)
 ·refine bJ ?_;exact m7 fun es=>bG _
 ·exact bH
end
theorem yT(o:iE)(ev:bw->V)(rows:Rows)(hf:Nat):DM (fun K:V×List (Nat×bd)->Prop=>bU o ev rows hf fun v u=>K (v,u)):=by
 cases o with
 |gC x=>exact bG _
 |pick c a b=>simp only[bU];split<;>first|exact bG _|exact bH
 |g7 x=>simp only[bU];split<;>first|exact bG _|exact bJ (bG _)|exact bH
 |bin op x y=>simp only[bU];exact cS (Aw _ _ _) fun _=>bG _
 |Ft neg x y=>simp only[bU];split<;>first|exact bG _|exact bH
 |FK neg ks x y=>
  simp only[bU];split
  ·rename_i a b _ _;unfold Kq;generalize wU ks a b=r;cases r with
   |none=>exact bH
   |some r=>exact bG _
  ·exact bH
 |isNil neg x y=>simp only[bU];split<;>first|exact bG _|exact bJ (bG _)|exact bH
 |un op x=>simp only[bU];exact cS (CI _ _) fun _=>bG _
 |conv k x=>simp only[bU];split<;>first|exact bG _|exact bH
 |same x=>simp only[bU];split<;>first|exact bG _|exact bH
 |HI x=>simp only[bU];split<;>first|exact bG _|exact bH
 |BW x=>simp only[bU];exact bJ (cS (jq _ _ _) fun _=>bJ (bG _))
 |alloc zero=>exact bG _
 |box sz x=>simp only[bU];exact cS (eH _ _) fun _=>bG _
 |build zero ps=>simp only[bU];exact cS (o9 _ _ _) fun _=>bG _
 |b5 sz len zero ps=>simp only[bU];exact cS (se _ _ _ _) fun _=>bG _
 |load agg sz a=>
  simp only[bU];split
  ·cases agg with
   |true=>exact bJ (bG _)
   |false=>exact pj fun _=>bG _
  ·rename_i s h n i off e;have key:DM (fun K:V×List (Nat×bd)->Prop=>fA rows h s n/\∀es,rows[h]? =some (.live s es)->(es.length=n/\off+sz<=s)/\(i<es.length/\∀e,es[i]? =some e->match agg with
    |true=>K (.agg ((e.drop off).take sz),[])
    |false=>sz=1/\off<e.length/\∀x,e[off]? =some x->K (x,[]))):=by
    refine m7 fun es=>bJ (pj fun e=>?_);cases agg with
    |true=>exact bG _
    |false=>exact bJ (pj fun _=>bG _)
   refine kU (fun K=>?_) key;constructor
   ·rintro⟨h1,h2⟩;obtain⟨es0,he0,hn0⟩:=h1;obtain⟨⟨h3,h4⟩,h5,h6⟩:=h2 es0 he0;refine⟨⟨es0,he0,hn0⟩,om,h4,fun es e he hi=>?_⟩;rw[he0]at he;injection he with he;injection he with _ he;subst he
    exact h6 e hi
   ·rintro⟨h1,h2,h3,h4⟩;refine⟨h1,fun es he=>⟨⟨?_,h3⟩,?_,fun e hi=>h4 es e he hi⟩⟩<;>
    ·obtain⟨es0,he0,hn0⟩:=h1;rw[he0]at he;injection he with he;injection he with _ he;subst he
     omega
  ·exact bH
 |store sz a x=>
  simp only[bU];split
  ·rename_i s h n i off e;have key:DM (fun K:V×List (Nat×bd)->Prop=>fA rows h s n/\∀es,rows[h]? =some (.live s es)->(es.length=n/\off+sz<=s)/\(i<es.length/\∀e,es[i]? =some e->di (ev x) sz fun cs=>K (.any,[(h,.live s (es.set i (mo e off cs)))]))):=m7 fun es=>bJ (pj fun e=>cS (eH _ _) fun _=>bG _);refine kU (fun K=>?_) key;constructor
   ·rintro⟨h1,h2⟩;obtain⟨es0,he0,hn0⟩:=h1;obtain⟨⟨h3,h4⟩,h5,h6⟩:=h2 es0 he0;refine⟨⟨es0,he0,hn0⟩,om,h4,?_⟩;refine(eH _ _).mono _ _ (fun cs hcs=>?_) (h6 _ (ae h5));intro es e he hi;rw[he0]at he;injection he with he;injection he with _ he;subst he
    rw[ae h5]at hi;injection hi with hi;subst hi
    exact hcs
   ·rintro⟨h1,h2,h3,h4⟩;refine⟨h1,fun es he=>⟨⟨?_,h3⟩,?_,fun e hi=>(eH _ _).mono _ _ (fun cs hcs=>hcs es e he hi) h4⟩⟩<;>
    ·obtain⟨es0,he0,hn0⟩:=h1;rw[he0]at he;injection he with he;injection he with _ he;subst he
     omega
  ·exact bH
 |jH sz bytes zero l c=>simp only[bU];exact cS (fp _) fun _=>cS (fp _) fun _=>bJ (bJ (bJ (bJ (bG _))))
 |slice sz x lo hi=>
  simp only[bU];split
  ·exact bJ (cS (eC _ _ _) fun _=>cS (eC _ _ _) fun _=>bJ (bJ (bG _)))
  ·exact bJ (bJ (cS (eC _ _ _) fun _=>cS (eC _ _ _) fun _=>bJ (bJ (bJ (bG _)))))
  ·exact bJ (cS (eC _ _ _) fun _=>cS (eC _ _ _) fun _=>bJ (bJ (bJ (bG _))))
  ·exact bJ (bJ (bJ (cS (eC _ _ _) fun _=>cS (eC _ _ _) fun _=>bJ (bJ (bJ (bG _))))))
  ·exact bH
 |nf off x=>simp only[bU];split<;>first|exact bG _|exact bJ (bG _)|exact bH
 |H8 off sz agg x=>
  simp only[bU];split
  ·cases agg with
   |true=>exact bJ (bG _)
   |false=>exact pj fun _=>bG _
  ·exact bH
 |fD sz arr x i=>
  simp only[bU];refine cS (fp _) fun j=>?_;split
  ·rename_i s es e;have key:DM (fun K:V×List (Nat×bd)->Prop=>s=sz/\(0<=j)/\((j<es.length)/\∀e,es[j.toNat]? =some e->K (.d (.ptr e),[]))):=bJ ⟨fun _ _ hk h=>⟨h.1,h.2.1,fun e he=>hk _ (h.2.2 e he)⟩,fun K h=>by
     have hl:j.toNat<es.length:=by have:=h.1;have:=h.2.1;omega
     exact⟨_,⟨h.1,h.2.1,fun e he=>by rw[ae hl]at he;injection he with he;subst he;rfl⟩,h.2.2 _ (ae hl)⟩⟩
   exact key
  ·exact bJ (bJ (bJ (bJ (bG _))))
  ·exact bJ (bJ (bG _))
  ·exact bJ (bJ (bJ (bG _)))
  ·exact bH
 |idx sz n agg x i=>
  simp only[bU];refine cS (fp _) fun j=>?_;split
  ·rename_i cs e;cases agg with
   |true=>exact bJ (bJ (bJ (bG _)))
   |false=>
    refine⟨fun _ _ hk h=>⟨h.1,h.2.1,h.2.2.1,h.2.2.2.1,fun e he=>hk _ (h.2.2.2.2 e he)⟩,fun K h=>?_⟩;obtain⟨h1,h2,h3,h4,h5⟩:=h;have hl:j.toNat<cs.length:=by subst h4;omega
    exact⟨_,⟨h1,h2,h3,h4,fun e he=>by rw[ae hl]at he;injection he with he;subst he;rfl⟩,h5 _ (ae hl)⟩
  ·exact bH
 |iL x i=>
  simp only[bU];refine cS (fp _) fun j=>?_;split
  ·rename_i s e;refine⟨fun _ _ hk h=>⟨h.1,h.2.1,fun e he=>hk _ (h.2.2 e he)⟩,fun K h=>?_⟩;have hl:j.toNat<s.length:=by have:=h.1;have:=h.2.1;omega
   exact⟨_,⟨h.1,h.2.1,fun e he=>by rw[ae hl]at he;injection he with he;subst he;rfl⟩,h.2.2 _ (ae hl)⟩
  ·exact bH
 |ext x i=>
  simp only[bU];split
  ·exact pj fun _=>bG _
  ·exact bH
 |eG f a b=>exact bG _
 |len str x=>simp only[bU];split<;>first|exact bG _|exact bJ (bG _)|exact bH
 |append sz bytes s x=>
  simp only[bU];refine cS (jq _ _ _) fun xs=>?_;split
  ·exact bJ (bG _)
  ·exact bJ (bJ (bJ (bG _)))
  ·rename_i s h n off len e;have key:DM (fun K:V×List (Nat×bd)->Prop=>(s=sz/\off=0/\len=n/\(n+xs.length)*bytes<=bM)/\(fA rows h sz n/\∀es,rows[h]? =some (.live sz es)->K (.cl sz h (n+xs.length) 0 (n+xs.length),[(h,.live sz (es++xs))]))):=bJ (m7 fun es=>bG _);refine kU (fun K=>?_) key;constructor
   ·rintro⟨⟨a,b,c,d⟩,e,f⟩;exact⟨a,b,c,e,d,f⟩
   ·rintro⟨a,b,c,e,d,f⟩;exact⟨⟨a,b,c,d⟩,e,f⟩
  ·exact bH
 |copy sz d s=>
  simp only[bU];refine cS (jq _ _ _) fun xs=>?_;split
  ·exact bG _
  ·exact bJ (m7 fun es=>bG _)
  ·exact bH
 |Gf sz z x=>
  simp only[bU];split
  ·rename_i s h n off len _;refine kU (F:=fun K:V×List (Nat×bd)->Prop=>(s=sz/\off+len<=n)/\(fA rows h sz n/\∀es,rows[h]? =some (bd.live sz es)->K (.cm [],[(h,.live sz (es.take off++List.replicate len (z.map .d)++es.drop (off+len)))]))) (fun K=>?_) (bJ (m7 fun es=>bG _));constructor
   ·rintro⟨⟨a,b⟩,c,d⟩;exact⟨a,c,b,d⟩
   ·rintro⟨a,c,b,d⟩;exact⟨⟨a,b⟩,c,d⟩
  ·exact bH
 |mn x y=>simp only[bU];split<;>first|exact bG _|exact bH
 |mx x y=>simp only[bU];split<;>first|exact bG _|exact bH
 |Jo x y z=>simp only[bU];split<;>first|exact bG _|exact bH
 |JI x y z=>simp only[bU];split<;>first|exact bG _|exact bH
 |cap x=>simp only[bU];split<;>first|exact bG _|exact bH
 |clip sz x hi mx=>
  simp only[bU];split
  ·exact bJ (bJ (cS (fp _) fun _=>cS (fp _) fun _=>bJ (bJ (bG _))))
  ·exact bH
 |sM sz bytes zero s x=>
  simp only[bU];split
  ·exact bJ (bJ (bG _))
  ·exact bH
 |qi T x=>
  simp only[bU];split
  ·unfold BQ;split<;>first|exact bG _|exact bH
  ·exact bH
 |xq T z x=>
  simp only[bU];split
  ·unfold tB;split
   ·exact bG _
   ·split<;>first|exact bJ (bG _)|exact bH
  ·exact bH
 |nu neg x=>simp only[bU];split<;>first|exact bG _|exact bH
 |q7 n=>exact bG _
 |DK n ok z m k=>
  simp only[bU];split
  ·refine bJ ?_;unfold Db;split
   ·exact bJ (bJ (bG _))
   ·exact bH
  ·exact bH
 |B9 n m k v=>
  simp only[bU];split
  ·refine bJ ?_;unfold Ih;split
   ·exact bJ (bJ (bG _))
   ·exact bH
  ·exact bH
 |bad=>exact bH
 |iI x y=>simp only[bU];split<;>first|exact bG _|exact bH
 |qB x=>simp only[bU];split<;>first|exact bG _|exact bH
 |FO x=>
  simp only[bU];split
  ·unfold Gn;split
   ·rename_i s pos _;by_cases hp:pos<s.length
    ·exact kU (fun K=>⟨fun h=>⟨fun _=>h,fun hn=>absurd hp hn⟩,fun h=>h.1 hp⟩) (bG _)
    ·exact kU (fun K=>⟨fun h=>⟨fun hn=>absurd hn hp,fun _=>h⟩,fun h=>h.2 hp⟩) (bG _)
   ·exact bH
  ·exact bH
 |mz=>exact bG _
 |BV ok z m k=>
  simp only[bU];split
  ·refine bJ ?_;unfold xE;split<;>first|exact bG _|exact bH
  ·refine bJ ?_;unfold xE;split<;>first|exact bG _|exact bH
  ·exact bH
 |DC m k v=>
  simp only[bU];split
  ·refine bJ ?_;unfold Gq;split<;>first|exact bG _|exact bH
  ·exact bH
end Go.Vx
