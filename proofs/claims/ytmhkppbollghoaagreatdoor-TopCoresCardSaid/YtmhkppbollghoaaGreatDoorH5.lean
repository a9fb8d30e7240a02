/- Proved: contracts of functions that the laws of Top reach, and plain facts for them. Conditions: those that each lemma states. -/
import Derived.Test.YtmhkppbollghoaaGreatDoorF6
import Derived.Test.YtmhkppbollghoaaGreatDoorQ
set_option linter.unusedSectionVars false
set_option linter.unusedSimpArgs false
set_option linter.unusedVariables false
namespace Go.Proofs.Tp
open Go.Vx
theorem PM[bf](R:Go.Vx.Rows)(h:Nat)(a:List Int)(hh:h<R.length)(hr:Go.Vx.rowAt R h=rI a)(ha:a.length<=65536):dn Tryz.prog 85 [.cl 1 h a.length 0 a.length] R (fun v R'=>(v=.d .bm/\a=[]/\R'=R)\/(v=.cl 1 R.length a.length 0 a.length/\R'=R++[rI a,.un])):=by
 have hmL:=dx;have r0:∀B:Go.Vx.Rows,Go.Vx.rowAt (R++B) R.length=Go.Vx.rowAt B 0:=fun B=>cd om;have r1:∀B:Go.Vx.Rows,Go.Vx.rowAt (R++B) (R.length+1)=Go.Vx.rowAt B 1:=fun B=>cd om;have s0:∀(B:Go.Vx.Rows) (r:bd),setAt (R++B) R.length r=R++setAt B 0 r:=fun B r=>cf om;have s1:∀(B:Go.Vx.Rows) (r:bd),setAt (R++B) (R.length+1) r=R++setAt B 1 r:=fun B r=>cf om;have v0:∀B:Go.Vx.Rows,Go.Vx.rowAt (R++B) h=rI a:=fun B=>by rw[dR,aH hh,<-dR,hr]
 refine cc85.gi ac85 rfl ?_;cases a with
 |nil=>simp only[vq,seval,ac85,hr,rI,an,List.length_cons,List.length_nil,r0,r1,s0,s1,v0,List.map_nil];exact⟨.inl trivial,by simp only[bM];omega,.inr trivial⟩
 |cons x a=>simp only[vq,seval,ac85,hr,rI,an,List.length_cons,List.length_nil,r0,r1,s0,s1,v0,List.map_cons];simp only[List.length_cons]at ha;have e:List.take a.length (List.map (fun x=>List.map V.d x) (List.map iD a))=List.map (fun x=>List.map V.d x) (List.map iD a):=al sm;rw[e];exact⟨by simp only[bM,an];omega,.inr ⟨sm,rfl⟩⟩
theorem PN[bf](r0 r1 r3:bd)(B0:dz 6 r0)(B1:dz 6 r1)(B3:dz 6 r3)(p:Pr)(hv:p.vars.length<=16)(a:List Int)(hl:a.length=p.vars.length):dn Tryz.prog 84 [.agg (p.d.map .d),.cl 1 2 a.length 0 a.length] [r0,r1,rI a,r3] (fun v R=>v=.cl 2 5 a.length 0 a.length/\R=[r0,r1,rI a,r3,.live 5 [p.d.map .d],.live 2 (((dF p.vars a).map Sg.d).map (·.map .d))]):=by
 have hmL:=dx;rw[bj];refine cc84.gi (AC.at AC.wk [1,1,1,0,0] ac84) rfl ?_;simp only[vq,seval,ah,bS,ac84,AC.at,cz,rI,an,dt (show(a.length:Int)=p.vars.length by omega)];refine fu _ (eJ 5 2 rfl) ?_;simp only[vq,seval,an];refine bb (fun i:Nat=>⟨cC 34 [(1,.cl 1 2 a.length 0 a.length),(2,.aY 5 4 1 0 0),(5,.cl 2 5 i 0 i),(15,.d (cz p.vars)),(16,.d (.int .i64 p.vars.length)),(17,.d (.int .i64 i))],[r0,r1,rI a,r3,.live 5 [p.d.map .d],.live 2 (((dF (p.vars.take i) (a.take i)).map Sg.d).map (·.map .d))]⟩) (fun i=>i<=p.vars.length) (fun i=>p.vars.length-i) 0 (bk (by rw[bj];rfl) (by simp only[vq,seval,cz];try trivial)) om ?_;rintro i h1;simp only[vq,seval,cz];refine aZ (fun hc=>?_) (fun hc=>?_)
 ·simp only[aj]at hc;obtain⟨x,hx⟩:=bh (l:=p.vars) (i:=i) om;obtain⟨v,hy⟩:=bh (l:=a) (i:=i) om;simp only[vq,seval];refine⟨om,om,bg hx ?_⟩;simp only[vq,seval];simp only[vq,seval,Vr.d];have hel:=iQ (p.vars.take i) (a.take i) (by simp[hl]);rw[List.length_take,Nat.min_eq_left h1]at hel;refine bW ?_;simp only[vq,seval,bj,rI,an]
  repeat(refine cc rfl rfl ?_;simp only[vq,seval,bj,rI,an])
  refine⟨om,om,?_⟩
  repeat(refine cc rfl rfl ?_;simp only[vq,seval,bj,rI,an])
  refine b8 (oS hy) ?_;simp only[vq,seval,bj,rI,an]
  repeat(refine cc rfl rfl ?_;simp only[vq,seval,bj,rI,an])
  refine⟨by simp[hel],by simp only[bM];omega,?_⟩
  repeat(refine cc rfl rfl ?_;simp only[vq,seval,bj,rI,an])
  refine bL (i+1) om (bz 6 sm (by rw[bQ hx,bQ hy,pN _ _ _ _ (by simp[hl])];simp[Sg.d,rI]) rfl ⟨B0,B1,nY (l:=a.map iD),B3,eE (e:=p.d),nY (l:=(dF (p.vars.take (i+1)) (a.take (i+1))).map Sg.d),trivial⟩ ?_) om;simp only[vq,seval,cz];rw[a8 om om];trivial
 ·simp only[ak]at hc;obtain rfl:i=p.vars.length:=om;rw[al (aq _),al om];simp only[vq,seval];exact⟨by rw[hl],rfl⟩
theorem Av{d1 d2 d3 d4 d5 d6 d7 d8:D}{k:Nat}:dz 6 (.live 9 [[.d d1,.d d2,.d d3,.d d4,.d d5,.d d6,.cl 1 2 k 0 k,.d d7,.d d8]]):=fun x hx v hv=>by simp at hx;subst hx;simp at hv;rcases hv with rfl|rfl|rfl|rfl|rfl|rfl|rfl|rfl|rfl<;>rfl
theorem uV:∀{l:List Vr} {a:List Int},(∀x∈l,1<=x.w/\x.w<=8)->dq l a=true->dq l (k8 l a).1=true
 |[],[],_,_=>rfl
 |[],_::_,_,h=>by cases h
 |_::_,[],_,h=>by cases h
 |x::l,v::a,hw,h=>by
  rw[dq,av]at h;have ih:=uV (fun y hy=>hw y (by simp[hy])) h.2;have hp:(0:Int)<2^x.w.toNat:=Int.pow_pos om;have h1:=uT h.1;have hm:x.m≠0->∀u,0<=u->u<2^x.w.toNat->jQ x u=true:=fun hm u h1 h2=>by simp[jQ,h1,h2,hm]
  rw[k8];split
  ·rw[dq,h.1];exact ih
  split
  ·rw[dq,h.1];exact ih
  rename_i hm0;split
  ·rename_i hlt;rw[dq,hm hm0 _ om hlt];exact ih
  ·rw[dq,hm hm0 0 om hp];exact ih
theorem EC:∀{l:List Vr} {a:List Int} {i:Nat} {x:Vr} {v:Int},l[i]? =some x->a[i]? =some v->(dF l a)[i]? =some ⟨x.nm,v⟩
 |x::l,v::a,0,_,_,h1,h2=>by simp at h1 h2;subst h1 h2;rfl
 |x::l,v::a,i+1,_,_,h1,h2=>by simpa[dF]using EC (l:=l) (a:=a) (by simpa using h1) (by simpa using h2)
 |[],_,_,_,_,h1,_=>by simp at h1
 |_::_,[],_,_,_,_,h2=>by simp at h2
theorem zF:∀{l:List Vr} {a:List Int} {i:Nat} {x:Vr} (y:Int),l[i]? =some x->i<a.length->(dF l a).set i ⟨x.nm,y⟩=dF l (a.set i y)
 |x::l,v::a,0,_,y,h1,_=>by simp at h1;subst h1;rfl
 |x::l,v::a,i+1,_,y,h1,h2=>by rw[dF,List.set_cons_succ,List.set_cons_succ,dF,zF (l:=l) (a:=a) y (by simpa using h1) (by simpa using h2)]
 |[],_,_,_,_,h1,_=>by simp at h1
 |_::_,[],_,_,_,_,h2=>by simp at h2
theorem LS{a e:List Int}{i:Nat}{y:Int}(hy:a[i]? =some y)(he:i<e.length):(a.take i++e.drop i).set i y=a.take (i+1)++e.drop (i+1):=by rw[bQ hy,List.append_assoc];have hi:=(ad.1 hy).1;rw[List.drop_eq_getElem_cons he,dA _ _ _ _ so];rfl
theorem I5{R:Go.Vx.Rows}{h sz:Nat}{es:List (List D)}(hr:R[h]? =some (.live sz (es.map (·.map .d)))):dN R (.cl sz h es.length 0 es.length)/\dJ R (.cl sz h es.length 0 es.length)=.d (.sl sz es):=by
 constructor
 ·refine⟨om,_,hr,sm,fun e he v hv=>?_⟩;obtain⟨e,_,rfl⟩:=aw.1 he;obtain⟨d,_,rfl⟩:=aw.1 hv;rfl
 ·simp only[dJ,eR,hr,List.drop_zero];rw[al sm,List.map_map];congr 2;refine(List.map_congr_left fun e _=>?_).trans (List.map_id _);simp only[Function.comp,List.map_map];exact(List.map_congr_left fun d _=>rfl).trans (List.map_id _)
theorem JE(R:Go.Vx.Rows)(l:List D):dN R (.agg (l.map .d))/\dJ R (.agg (l.map .d))=.agg (l.map .d):=by
 constructor
 ·intro v hv;obtain⟨d,_,rfl⟩:=aw.1 hv;rfl
 ·simp only[dJ,List.map_map];congr 1
theorem mQ{x:V}{l k:List V}(h:pX l k):pX (x::l) (x::k):=by
 cases x with
 |any=>exact h
 |_=>exact⟨rfl,h⟩
abbrev QH(p:Pr)(rl:List Ex)(a:List Int)(o:Bool)(n:Int):bd:=.live 9 [[.d (cz p.vars),.d (.sl 4 (p.cj.map Ex.d)),.d (.sl 4 (p.soft.map Ex.d)),.d (.sl 2 (p.bZ.map Ds.d)),.d (.sl 1 (p.br.map gD)),.d (.sl 4 (rl.map Ex.d)),.cl 1 2 a.length 0 a.length,.d (.bool o),.d (.int .i64 n)]]
abbrev FM(l:List Vr)(e:List Int):bd:=.live 2 (((dF l e).map Sg.d).map (·.map .d))
theorem t43(p:Pr)(hw:∀x∈p.vars,1<=x.w/\x.w<=8)(h16:p.vars.length<=16)(rl:List Ex)(hrl:∀e∈rl,qe p.vars e)(hln:rl.length<=4294967296)(a:List Int)(ha:dq p.vars a=true)(o:Bool)(n:Nat)(hn:n<=262144)(r0 r1:bd)(B0:dz 6 r0)(B1:dz 6 r1):dn Tryz.prog 43 [.aY 9 3 1 0 0] (kX r0 r1 p rl a o n []) (fun v R=>∃b m,R[3]? =some (QH p rl b (ni p.vars rl n a o).2 m)/\match(ni p.vars rl n a o).1 with
  |some c=>v=.cm [.d (.sl 1 (c.map iD)),.d (.bool true)]
  |none=>v=.cm [.d .bm,.d (.bool false)]):=by
 have hmL:=dx;have hl:=gG ha;refine cc43.gi (AC.at AC.wk [1,2,1,1,0,2,2,1,2,1,1,0,0] (AC.at AC.pn [1,2,0] (AC.at (AC.look [false,true]) [1,2,1,1,0,2,2,1,2,1,1,1,0] (AC.at (AC.look [false,false,false,false,true]) [1,2,1,1,0,2,2,1,2,1,0] ac43)))) rfl ?_;simp only[vq,seval,ac43,AC.at,AC.pn,AC.look,rI,an];refine ug 8 rfl rfl ?_;simp only[vq,seval,rI,an]
 repeat(refine cc rfl rfl ?_;simp only[vq,seval,rI,an])
 have C:= @PN;simp only[bj]at C;refine x9 (kS.of (b6 (C r0 r1 _ B0 B1 Av p h16 a hl) ?_));rintro _ _ ⟨rfl,rfl⟩;simp only[vq,seval];refine cc rfl rfl ?_;simp only[vq,seval];refine bb (fun t:Nat×List Int×Bool×List Int=>⟨cC 79 [(0,.aY 9 3 1 0 0),(4,.cl 2 5 p.vars.length 0 p.vars.length)],kX r0 r1 p rl t.2.1 t.2.2.1 t.1 [.live 5 [p.d.map .d],FM p.vars t.2.2.2]⟩) (fun t=>t.1<=n/\dq p.vars t.2.1=true/\t.2.2.2.length=p.vars.length/\ni p.vars rl n a o=ni p.vars rl t.1 t.2.1 t.2.2.1) (fun t=>t.1) (n,a,o,a) (bk (by simp only[kX,rI,bj]) (by simp only[vq,seval];rw[hl];try trivial)) ⟨aq _,ha,hl,rfl⟩ ?_;rintro⟨k,a,o,e⟩ ⟨h1,ha,he,h3⟩;dsimp only at h1 ha he h3;have hl:=gG ha;rw[h3];cases o with
 |true=>
  have e0:∀n,ni p.vars rl n a true=(none,true):=fun n=>by cases n<;>rfl
  rw[e0];simp only[vq,seval,ah,bS,rI,an];exact⟨a,_,rfl,rfl⟩
 |false=>
  cases k with
  |zero=>simp only[vq,seval,ah,bS,rI,an];exact⟨a,_,rfl,rfl⟩
  |succ k=>
   have e1:ni p.vars rl (k+1) a false=if rl.all (ie p.vars a)=true then(some a,(k8 p.vars a).2)else ni p.vars rl k (k8 p.vars a).1 (k8 p.vars a).2:=rfl
   rw[e1]at h3|-;have hw1:IntKind.i64.wrap (((k+1:Nat):Int)-1)=(k:Int):=by rw[a8 om om];omega
   simp only[vq,seval,ah,bS,rI,an,dt (show(0:Int)<((k+1:Nat):Int) by omega),hw1];refine dh (b6 (PM (kX r0 r1 p rl a false k [.live 5 [p.d.map .d],FM p.vars e]) 2 a sm rfl om) ?_);intro v R' hv;have hfz:∃B,R'=kX r0 r1 p rl a false k [.live 5 [p.d.map .d],FM p.vars e]++B/\ed (mF 6 R') v (.d (.sl 1 (a.map iD))):=by
    rcases hv with⟨rfl,rfl,rfl⟩|⟨rfl,rfl⟩
    ·exact⟨[],sm,.bm 1⟩
    ·refine⟨_,rfl,da (es:=a.map iD) rfl sm om Ge ?_⟩;rw[List.drop_zero,al sm]
   obtain⟨B,rfl,hsn⟩:=hfz;clear hv;simp only[vq,seval];refine fu ⟨cC 79 [(0,.aY 9 3 1 0 0),(4,.cl 2 5 p.vars.length 0 p.vars.length),(5,.d (.sl 1 (a.map iD)))],kX r0 r1 p rl a false k [.live 5 [p.d.map .d],FM p.vars e]⟩ ((a9 (fr':=cC 79 [(0,.aY 9 3 1 0 0),(4,.cl 2 5 p.vars.length 0 p.vars.length),(5,v)]) ?_).trans (kO 6 sm ?_ (mO (i:=5) (v':=.d (.sl 1 (a.map iD))) rfl hsn rfl))) ?_
   ·simp only[vq,seval];refine mQ ?_;trivial
   ·exact⟨B0,B1,nY (l:=a.map iD),Av,eE (e:=p.d),nY (l:=(dF p.vars e).map Sg.d),trivial⟩
   simp only[vq,seval];refine bb (fun i:Nat=>⟨cC 79 [(0,.aY 9 3 1 0 0),(4,.cl 2 5 p.vars.length 0 p.vars.length),(5,.d (.sl 1 (a.map iD))),(45,.d (.sl 1 (a.map iD))),(46,.d (.int .i64 a.length)),(47,.d (.int .i64 i))],kX r0 r1 p rl a false k [.live 5 [p.d.map .d],FM p.vars (a.take i++e.drop i)]⟩) (fun i=>i<=a.length) (fun i=>a.length-i) 0 (a9 vt) om ?_;rintro i hi;simp only[vq,seval];refine aZ (fun hc=>?_) (fun hc=>?_)
   ·simp only[aj]at hc;obtain⟨y,hy⟩:=bh (l:=a) (i:=i) om;simp only[vq,seval];refine⟨om,om,bg hy ?_⟩;simp only[vq,seval];simp only[vq,seval,iD];have hie:i<e.length:=om;obtain⟨x,hx⟩:=bh (l:=p.vars) (i:=i) om;have hz:(a.take i++e.drop i).length=p.vars.length:=by simp;omega
    have hen:=iQ p.vars _ hz;obtain⟨u,hu⟩:=bh (l:=a.take i++e.drop i) (i:=i) om;refine⟨om,om,hen,hen,hen,b8 (x:=[.d (.str x.nm),.d (.int .i64 u)]) (by rw[ar,ar,EC hx hu];rfl) ?_⟩;simp only[vq,seval];refine bL (i+1) om (bk ?_ ?_) om
    ·have e2:FM p.vars ((a.take i++e.drop i).set i y)=.live 2 ((((dF p.vars (a.take i++e.drop i)).map Sg.d).map (·.map V.d)).set i [.d (.str x.nm),.d (.int .i64 y)]):=by simp only[FM];rw[<-zF y hx om,List.map_set,List.map_set];rfl
     rw[<-LS hy hie,e2]
    ·simp only[vq,seval];rw[a8 om om];trivial
   ·simp only[ak]at hc;obtain rfl:i=a.length:=om;rw[al (aq _),aR om,List.append_nil];simp only[vq,seval];refine dh (b6 (t86 r0 r1 p hw h16 rl a ha false k [.live 5 [p.d.map .d],FM p.vars a]) ?_);rintro _ _ rfl;rw[Bool.false_or];generalize hb:(k8 p.vars a).1=b at*;generalize hq:(k8 p.vars a).2=q at*;have hba:dq p.vars b=true:=hb▸uV hw ha;have hbl:=gG hba;simp only[vq,seval,rI,an];refine bb (fun i:Nat=>⟨cC 79 [(0,.aY 9 3 1 0 0),(4,.cl 2 5 p.vars.length 0 p.vars.length),(5,.d (.sl 1 (a.map iD))),(63,.d (.sl 4 (rl.map Ex.d))),(64,.d (.int .i64 rl.length)),(65,.d (.int .i64 i))],kX r0 r1 p rl b q k [.live 5 [p.d.map .d],FM p.vars a]⟩) (fun i=>i<=rl.length/\rl.all (ie p.vars a)=(rl.drop i).all (ie p.vars a)) (fun i=>rl.length-i) 0 (a9 vt) ⟨om,by rw[List.drop_zero]⟩ ?_;rintro i ⟨g1,g2⟩;simp only[vq,seval];refine aZ (fun hc=>?_) (fun hc=>?_)
    ·simp only[aj]at hc;obtain⟨x,hx⟩:=bh (l:=rl) (i:=i) om;rw[bt hx,List.all_cons]at g2;have hxr:=hrl x (af hx);simp only[vq,seval];refine⟨om,om,bg hx ?_⟩;simp only[vq,seval];simp only[vq,seval,dI];have hsn:=fun(q:bd)=>I5 (R:=[r0,r1,rI b,q,.live 5 [p.d.map .d],FM p.vars a,.live 4 [x.d.map .d]]) (h:=5) (sz:=2) (es:=(dF p.vars a).map Sg.d) rfl;simp only[an,iQ _ _ hl]at hsn;refine fw (v:=.cm [.d (.int .i64 (o5 (dF p.vars a) x)),.d (.int .i64 0)]) (fun v hv=>?_) rfl ?_ ?_
     ·simp only[List.nil_append,List.append_nil,aP,List.not_mem_nil,or_false]at hv;rcases hv with rfl|rfl
      ·exact(JE _ _).1
      ·exact(hsn _).1
     ·simp only[List.nil_append,List.append_nil,List.map_cons,List.map_nil,(JE _ _).2,(hsn _).2];exact NL p.vars h16 a hl x hxr
     cases hk:ie p.vars a x with
     |false=>
      have hv:o5 (dF p.vars a) x=0:=by simpa[ie]using hk
      rw[hk,Bool.false_and]at g2;rw[g2,if_neg sm]at h3|-;simp only[vq,seval,ah,bS,dt hv];refine bL (k,b,q,a) sm (bz 6 sm rfl rfl ⟨B0,B1,nY (l:=b.map iD),Av,eE (e:=p.d),nY (l:=(dF p.vars a).map Sg.d),trivial⟩ ?_) ⟨om,hba,hl,rfl⟩;simp only[vq,seval]
     |true=>
      have hv:¬o5 (dF p.vars a) x=0:=by simpa[ie]using hk
      rw[hk,Bool.true_and]at g2;simp only[vq,seval,ah,bS,df hv];refine bL (i+1) om (bz 6 sm rfl rfl ⟨B0,B1,nY (l:=b.map iD),Av,eE (e:=p.d),nY (l:=(dF p.vars a).map Sg.d),trivial⟩ ?_) ⟨om,g2⟩;simp only[vq,seval];rw[a8 om om];trivial
    ·simp only[ak]at hc;rw[b4 om,List.all_nil]at g2;rw[g2]at h3|-;simp only[vq,seval];exact⟨b,_,rfl,rfl⟩
theorem rU:∀{l:List Vr},(∀x∈l,1<=x.w/\x.w<=8/\0<=x.v/\x.v<2^x.w.toNat)->dq l (jb l)=true
 |[],_=>rfl
 |x::l,h=>by
  obtain⟨h1,h2,h3,h4⟩:=h x sm;have hp:(0:Int)<2^x.w.toNat:=Int.pow_pos om;rw[jb,dq,rU fun y hy=>h y (by simp[hy]),Bool.and_true];by_cases hm:x.m=0
  ·simp[jQ,hm,h3,h4]
  ·simp[jQ,hm,hp]
theorem rp{p:Pr}(h:cE p=0):∀x∈p.vars,1<=x.w/\x.w<=8/\0<=x.v/\x.v<2^x.w.toNat:=fun x hx=>by have:=(n6 (nv (tA (ec h)).1 x hx)).2;omega
def sX(p:Pr)(rl:List Ex)(n:Nat):Option (List Int)×Bool:=ni p.vars rl n (jb p.vars) false
def DB(r:Option (List Int)×Bool):V:=match r with
 |(some c,_)=>.cm [.d (.sl 1 (c.map iD)),.d (.int .i64 0)]
 |(none,true)=>.cm [.d .bm,.d (.int .i64 11)]
 |(none,false)=>.cm [.d .bm,.d (.int .i64 18)]
theorem HP{l:List Vr}{e:Ex}(h:qe l e):vi l e=true:=by simp[vi,h.2.1,h.2.2]
theorem t17(p:Pr)(ok:g8 p)(hv:cE p=0)(rl:List Ex)(hrl:∀e∈rl,qe p.vars e)(hln:rl.length<=4294967296)(n:Nat)(hn:n<=262144):CallP Tryz.prog 17 [.agg (p.d.map .d),.d (.sl 4 (rl.map Ex.d)),.d (.int .i64 n)] (DB (sX p rl n)):=by
 have hmL:=dx;have h16:=gK (ec hv);have hb:okB p rl n=true:=by rw[okB,dt hv,df (show¬((n:Nat):Int)<0 by omega),df (show¬(262144:Int)<n by omega)];simp only[bS];exact aG.2 fun e he=>HP (hrl e he)
 have C:=t42 p ok rl (fun e he=>(hrl e he).1) hln n;rw[hb,bj]at C;rw[bj];have ha:=rU (rp hv);have D:=fun(_:Unit)=>t43 p (pP hv) h16 rl hrl hln (jb p.vars) ha false n hn (.live 5 [p.d.map .d]) (.live 5 [p.d.map .d]) (eE (e:=p.d)) (eE (e:=p.d));refine cc17.go (AC.at (AC.look [false,true]) [1,1,1,0] (AC.at (AC.look [false,false,false,true]) [1,0] ac17)) rfl ?_;simp only[vq,seval,ac17,AC.at,AC.look];refine dh (b6 C ?_);rintro _ _ (⟨-,rfl,rfl⟩|⟨h,_⟩)
 rotate_left
 ·cases h
 simp only[vq,seval];have D:=D ();rw[bj]at D;refine dh (b6 D ?_);intro v R hR;obtain⟨b,m,hr3,hm⟩:=hR;have e3:Go.Vx.rowAt R 3=QH p rl b (ni p.vars rl n (jb p.vars) false).2 m:=by rw[dR,hr3];rfl
 unfold sX DB;rcases hh:ni p.vars rl n (jb p.vars) false with⟨q,o⟩;rw[hh]at hm e3;cases q with
 |some c=>simp only at hm e3|-;subst hm;simp only[vq,seval];exact .d _
 |none=>
  simp only at hm e3|-;subst hm;cases o with
  |true=>simp only[vq,seval,e3];exact .d _
  |false=>simp only[vq,seval,e3];exact .d _
end Go.Proofs.Tp
namespace Go.Proofs.Tp
structure Nd where
 lv:Nat
 lo:Nat
 hi:Nat
 deriving DecidableEq
def qA:List Nd:=[⟨20,0,0⟩,⟨20,1,1⟩]
def LW(β:Nat->Bool)(acc:List Bool)(n:Nd):List Bool:=acc++[if n.lv=20 then decide (n.lo=1)else if β n.lv=true then acc.getD n.hi false else acc.getD n.lo false]
def tv(β:Nat->Bool)(N:List Nd):List Bool:=N.foldl (LW β) []
def ev(β:Nat->Bool)(N:List Nd)(f:Nat):Bool:=(tv β N).getD f false
def cA(N:List Nd)(f:Nat):Nd:=N.getD f ⟨20,0,0⟩
def yq(N:List Nd)(i:Nat)(n:Nd):Bool:=decide (n.lv<20)&&(decide (n.lo<i)&&(decide (n.hi<i)&&(!decide (n.lo=n.hi)&&(decide (n.lv<(cA N n.lo).lv)&&decide (n.lv<(cA N n.hi).lv)))))
class NB where
 nb:Nat
 le:nb<=20
section
variable[NB]
structure ct(N:List Nd):Prop where
 pre:∃R,N=qA++R
 len:N.length<=8192
 pl:∀i n,2<=i->N[i]? =some n->yq N i n=true
 nd:N.Nodup
 lb:∀n∈N,n.lv=20\/n.lv<NB.nb
theorem Ko(β:Nat->Bool)(N:List Nd)(n:Nd):tv β (N++[n])=tv β N++[if n.lv=20 then decide (n.lo=1)else if β n.lv=true then ev β N n.hi else ev β N n.lo]:=by simp only[tv,List.foldl_append,List.foldl_cons,List.foldl_nil,LW,ev]
theorem yD(β:Nat->Bool)(N:List Nd):(tv β N).length=N.length:=by
 have:∀(N:List Nd) (acc:List Bool),(N.foldl (LW β) acc).length=acc.length+N.length:=fun N=>by
  induction N with
  |nil=>intro acc;rfl
  |cons n N ih=>intro acc;rw[List.foldl_cons,ih];simp[LW];omega
 rw[tv,this];simp
theorem LO(β:Nat->Bool)(N L:List Nd):∃r,tv β (N++L)=tv β N++r:=by
 have:∀(L:List Nd) (acc:List Bool),∃r,L.foldl (LW β) acc=acc++r:=fun L=>by
  induction L with
  |nil=>intro acc;exact⟨[],sm⟩
  |cons n L ih=>intro acc;obtain⟨r,hr⟩:=ih (LW β acc n);refine⟨[if n.lv=20 then decide (n.lo=1)else if β n.lv=true then acc.getD n.hi false else acc.getD n.lo false]++r,?_⟩;rw[List.foldl_cons,hr,LW,List.append_assoc]
 unfold tv;rw[List.foldl_append];exact this L _
theorem fS(β:Nat->Bool)(N L:List Nd){f:Nat}(hf:f<N.length):ev β (N++L) f=ev β N f:=by obtain⟨r,hr⟩:=LO β N L;unfold ev;rw[hr,List.getD_eq_getElem?_getD,aH (by rw[yD];exact hf),<-List.getD_eq_getElem?_getD]
theorem Fv(β:Nat->Bool)(N:List Nd)(n:Nd):ev β (N++[n]) N.length=if n.lv=20 then decide (n.lo=1)else if β n.lv=true then ev β N n.hi else ev β N n.lo:=by unfold ev;rw[Ko,List.getD_eq_getElem?_getD,aJ (by rw[yD];exact aq _),yD,Nat.sub_self];rfl
theorem jn(N L:List Nd){f:Nat}(hf:f<N.length):cA (N++L) f=cA N f:=by unfold cA;rw[List.getD_eq_getElem?_getD,aH hf,<-List.getD_eq_getElem?_getD]
theorem eD{N:List Nd}{f:Nat}(hf:f<N.length):N[f]? =some (cA N f):=by unfold cA;rw[List.getD_eq_getElem?_getD,ae hf];rfl
theorem ct.two{N:List Nd}(h:ct N):2<=N.length:=by obtain⟨R,rfl⟩:=h.pre;simp[qA]
theorem ct.n0{N:List Nd}(h:ct N):cA N 0=⟨20,0,0⟩/\cA N 1=⟨20,1,1⟩:=by obtain⟨R,rfl⟩:=h.pre;exact⟨rfl,rfl⟩
theorem ct.zA{N:List Nd}(h:ct N){f:Nat}(h2:2<=f)(hf:f<N.length):(cA N f).lv<20/\(cA N f).lo<f/\(cA N f).hi<f/\(cA N f).lo≠(cA N f).hi/\(cA N f).lv<(cA N (cA N f).lo).lv/\(cA N f).lv<(cA N (cA N f).hi).lv:=by have:=h.pl f _ h2 (eD hf);simpa[yq]using this
theorem ct.qn{N:List Nd}(h:ct N){f:Nat}(hf:f<N.length):(cA N f).lv<=20/\((cA N f).lv=20↔f<2):=by
 obtain⟨e0,e1⟩:=h.n0
 match f with
 |0=>rw[e0];simp
 |1=>rw[e1];simp
 |f+2=>have:=(h.zA om hf).1;omega
theorem tF(β:Nat->Bool){N:List Nd}(h:ct N){f:Nat}(hf:f<N.length):ev β N f=if f<2 then decide (f=1)else if β (cA N f).lv=true then ev β N (cA N f).hi else ev β N (cA N f).lo:=by
 have hsp:N=N.take f++([cA N f]++N.drop (f+1)):=by
  conv=>lhs;rw[<-List.take_append_drop f N]
  rw[List.drop_eq_getElem_cons hf];have:=eD hf;rw[ae hf]at this;injection this with this
  rw[this];rfl
 have hl:(N.take f).length=f:=by simp;omega
 have h1:ev β N f=ev β (N.take f++[cA N f]) f:=by
  conv=>lhs;rw[hsp,<-List.append_assoc]
  rw[fS _ _ _ so]
 have h2:=Fv β (N.take f) (cA N f);rw[hl]at h2;rw[h1,h2];obtain⟨e0,e1⟩:=h.n0;by_cases hf2:f<2
 ·rw[if_pos hf2,if_pos ((h.qn hf).2.2 hf2)]
  match f,hf2 with
  |0,_=>rw[e0]
  |1,_=>rw[e1]
 ·rw[if_neg hf2,if_neg (fun e=>hf2 ((h.qn hf).2.1 e))];obtain⟨_,p1,p2,_⟩:=h.zA om hf;have q:∀g,g<f->ev β (N.take f) g=ev β N g:=fun g hg=>by
   conv=>rhs;rw[hsp]
   rw[fS _ _ _ om]
  rw[q _ p1,q _ p2]
theorem sV(β:Nat->Bool){N:List Nd}(h:ct N):ev β N 0=false/\ev β N 1=true:=by have:=h.two;exact⟨by rw[tF β h (f:=0) om];rfl,by rw[tF β h (f:=1) om];rfl⟩
end
def za:List Nd->Nd->Option Nat
 |[],_=>none
 |x::l,n=>if x=n then some 0 else(za l n).map (· +1)
theorem EW{N:List Nd}{n:Nd}{i:Nat}(h:za N n=some i):N[i]? =some n:=by
 induction N generalizing i with
 |nil=>cases h
 |cons x l ih=>
  rw[za]at h;split at h
  ·rename_i hx;injection h with h;subst h;simp[hx]
  ·obtain⟨j,h1,rfl⟩:=aa.1 h;simpa using ih h1
theorem Df{N:List Nd}{n:Nd}(h:za N n=none):n∉N:=by
 induction N with
 |nil=>simp
 |cons x l ih=>
  rw[za]at h;split at h
  ·cases h
  ·rename_i hx;rw[Option.map_eq_none_iff]at h;simp only[aP,not_or];exact⟨fun e=>hx e.symm,ih h⟩
abbrev Key:=Nat×Nat×Nat
def kG:List (Key×Nat)->Key->Option Nat
 |[],_=>none
 |p::l,x=>if p.1=x then some p.2 else kG l x
def kP:List (Key×Nat)->Key->Nat->List (Key×Nat)
 |[],x,i=>[(x,i)]
 |p::l,x,i=>if p.1=x then(x,i)::l else p::kP l x i
structure Bt where
 N:List Nd
 full:Bool
 K:List (Key×Nat)
def qq(s:Bt)(lv lo hi:Nat):Nat×Bt:=if lo=hi then(lo,s)else match za s.N ⟨lv,lo,hi⟩with
  |some i=>(i,s)
  |none=>if 8192<=s.N.length then(0,⟨s.N,true,s.K⟩)else(s.N.length,⟨s.N++[⟨lv,lo,hi⟩],s.full,s.K⟩)
def o6(N:List Nd)(f lv:Nat)(one:Bool):Nat:=if(cA N f).lv=lv then(if one=true then(cA N f).hi else(cA N f).lo)else f
def gk(N:List Nd)(x:Key):Nat:=min (cA N x.1).lv (min (cA N x.2.1).lv (cA N x.2.2).lv)
def oe(N:List Nd)(x:Key)(one:Bool):Key:=(o6 N x.1 (gk N x) one,o6 N x.2.1 (gk N x) one,o6 N x.2.2 (gk N x) one)
def AV(op:Bool->Bool->Bool->Bool):Nat->Bt->Key->Nat×Bt
 |0,s,_=>(0,s)
 |k+1,s,x=>
  if s.full=true then(0,s)else
  if gk s.N x=20 then(if op (decide (x.1=1)) (decide (x.2.1=1)) (decide (x.2.2=1))=true then 1 else 0,s)else
  match kG s.K x with
  |some i=>(i,s)
  |none=>
   let r1:=AV op k s (oe s.N x false)
   let r2:=AV op k r1.2 (o6 r1.2.N x.1 (gk s.N x) true,o6 r1.2.N x.2.1 (gk s.N x) true,o6 r1.2.N x.2.2 (gk s.N x) true)
   let r3:=qq r2.2 (gk s.N x) r1.1 r2.1
   (r3.1,⟨r3.2.N,r3.2.full,kP r3.2.K x r3.1⟩)
def sb(op:Bool->Bool->Bool->Bool)(N:List Nd)(x:Key):Option (Nat×List Nd):=let r:=AV op 21 ⟨N,false,[]⟩ x;if r.2.full=true then none else some (r.1,r.2.N)
section
variable[NB]
abbrev xY(N:List Nd)(x:Key):Prop:=x.1<N.length/\x.2.1<N.length/\x.2.2<N.length
structure Pu(op:Bool->Bool->Bool->Bool)(N:List Nd)(x:Key)(i:Nat):Prop where
 kk:xY N x
 ii:i<N.length
 ee:∀β,ev β N i=op (ev β N x.1) (ev β N x.2.1) (ev β N x.2.2)
 ll:gk N x<=(cA N i).lv
structure inv(op:Bool->Bool->Bool->Bool)(s:Bt):Prop where
 g:ct s.N
 f:s.full=true->8192<=s.N.length
 k:s.full=false->∀p∈s.K,Pu op s.N p.1 p.2
theorem qN{N:List Nd}{x:Key}(h:xY N x)(L:List Nd):xY (N++L) x:=by simp only[xY,az]at h|-;omega
theorem qx{N:List Nd}{x:Key}(h:xY N x)(L:List Nd):gk (N++L) x=gk N x:=by unfold gk;rw[jn _ _ h.1,jn _ _ h.2.1,jn _ _ h.2.2]
theorem Pu.app{op:Bool->Bool->Bool->Bool}{N:List Nd}{x:Key}{i:Nat}(h:Pu op N x i)(L:List Nd):Pu op (N++L) x i:=⟨qN h.kk L,by have:=h.ii;simp;omega,fun β=>by rw[fS _ _ _ h.ii,fS _ _ _ h.kk.1,fS _ _ _ h.kk.2.1,fS _ _ _ h.kk.2.2];exact h.ee β,by rw[qx h.kk,jn _ _ h.ii];exact h.ll⟩
theorem FD{N:List Nd}(h:ct N){n:Nd}(hl:N.length<8192)(hn:n∉N)(hp:yq N N.length n=true)(hb:n.lv<NB.nb):ct (N++[n]) where
 lb:=fun m hm=>by
  rcases aU.1 hm with hm|hm
  ·exact h.lb m hm
  ·simp at hm;subst hm;exact .inr hb
 pre:=by obtain⟨R,hR⟩:=h.pre;exact⟨R++[n],by rw[hR,List.append_assoc]⟩
 len:=by simp;omega
 pl:=fun i m h2 hm=>by
  by_cases hi:i<N.length
  ·rw[aH hi]at hm;have hq:=h.pl i m h2 hm;simp only[yq,av,aj,Bool.not_eq_true',ak]at hq|-;obtain⟨q1,q2,q3,q4,q5,q6⟩:=hq;rw[jn _ _ om,jn _ _ om];exact⟨q1,q2,q3,q4,q5,q6⟩
  ·have hi2:=(ad.1 hm).1;simp at hi2;obtain rfl:i=N.length:=om;rw[aJ (aq _),Nat.sub_self]at hm;simp at hm;subst hm;simp only[yq,av,aj,Bool.not_eq_true',ak]at hp|-;obtain⟨q1,q2,q3,q4,q5,q6⟩:=hp;rw[jn _ _ q2,jn _ _ q3];exact⟨q1,q2,q3,q4,q5,q6⟩
 nd:=by rw[List.nodup_append];exact⟨h.nd,sm,fun a ha b hb=>by simp at hb;subst hb;exact fun e=>hn (e▸ha)⟩
theorem yE{op:Bool->Bool->Bool->Bool}{s:Bt}(h:inv op s){lv lo hi:Nat}(hlo:lo<s.N.length)(hhi:hi<s.N.length)(hlv:lv<20)(hnb:lv<NB.nb)(h1:s.full=false->lv<(cA s.N lo).lv/\lv<(cA s.N hi).lv):inv op (qq s lv lo hi).2/\(∃L,(qq s lv lo hi).2.N=s.N++L)/\(qq s lv lo hi).2.K=s.K/\(qq s lv lo hi).1<(qq s lv lo hi).2.N.length/\((qq s lv lo hi).2.full=false->s.full=false/\(∀β,ev β (qq s lv lo hi).2.N (qq s lv lo hi).1=if β lv=true then ev β s.N hi else ev β s.N lo)/\lv<=(cA (qq s lv lo hi).2.N (qq s lv lo hi).1).lv):=by
 unfold qq;split
 ·rename_i e;subst e;refine⟨h,⟨[],sm⟩,rfl,hlo,fun hf=>⟨hf,fun β=>sm,by have:=(h1 hf).1;simp only;omega⟩⟩
 rename_i hne;split
 ·rename_i i hi';have hg:=EW hi';have hl:=(ad.1 hg).1;have hnd:cA s.N i=⟨lv,lo,hi⟩:=by have:=eD hl;rw[hg]at this;injection this with this;exact this.symm
  refine⟨h,⟨[],sm⟩,rfl,hl,fun hf=>⟨hf,fun β=>?_,by simp only;rw[hnd];exact aq _⟩⟩;have h2:¬i<2:=fun h2=>by have:=(h.g.qn hl).2.2 h2;rw[hnd]at this;simp only at this;omega
  simp only;rw[tF β h.g hl,if_neg h2,hnd]
 rename_i hnone;split
 ·rename_i hfull;refine⟨⟨h.g,fun _=>hfull,fun hf=>by cases hf⟩,⟨[],sm⟩,rfl,by simp only;omega,fun hf=>by cases hf⟩
 rename_i hsm;have hf:s.full=false:=by
  cases hf:s.full with
  |false=>rfl
  |true=>exact absurd (h.f hf) om
 obtain⟨l1,l2⟩:=h1 hf;have hp:yq s.N s.N.length ⟨lv,lo,hi⟩=true:=by simp[yq];omega
 refine⟨⟨FD h.g om (Df hnone) hp hnb,fun e=>(by simp only at e;rw[hf]at e;cases e),fun _ p hp=>(h.k hf p hp).app _⟩,⟨[_],rfl⟩,rfl,sm,fun _=>⟨hf,fun β=>?_,?_⟩⟩
 ·simp only;rw[Fv,if_neg (by simp only;omega)]
 ·simp only;unfold cA;rw[List.getD_eq_getElem?_getD,aJ (aq _),Nat.sub_self];exact aq _
theorem JK{K:List (Key×Nat)}{x:Key}{i:Nat}(h:kG K x=some i):(x,i)∈K:=by
 induction K with
 |nil=>cases h
 |cons p l ih=>
  rw[kG]at h;split at h
  ·rename_i e;injection h with h;subst e h;simp
  ·simp[ih h]
theorem Km{K:List (Key×Nat)}{x:Key}{i:Nat}{p:Key×Nat}(h:p∈kP K x i):p=(x,i)\/p∈K:=by
 induction K with
 |nil=>simp[kP]at h;exact .inl h
 |cons q l ih=>
  rw[kP]at h;split at h
  ·rcases aP.1 h with h|h
   ·exact .inl h
   ·exact .inr (by simp[h])
  ·rcases aP.1 h with h|h
   ·exact .inr (by simp[h])
   ·rcases ih h with h|h
    ·exact .inl h
    ·exact .inr (by simp[h])
theorem yu{N:List Nd}(h:ct N){f lv:Nat}(hf:f<N.length)(hl:lv<=(cA N f).lv)(h20:lv<20)(one:Bool):o6 N f lv one<N.length/\lv<(cA N (o6 N f lv one)).lv/\∀β,β lv=one->ev β N (o6 N f lv one)=ev β N f:=by
 unfold o6;split
 ·rename_i e;have h2:¬f<2:=fun h2=>by have:=(h.qn hf).2.2 h2;omega
  obtain⟨p0,p1,p2,_,p4,p5⟩:=h.zA om hf;cases one with
  |false=>simp only[Bool.false_eq_true,if_false];exact⟨om,om,fun β hβ=>by rw[tF β h hf,if_neg h2,e,hβ];simp⟩
  |true=>simp only[if_true];exact⟨om,om,fun β hβ=>by rw[tF β h hf,if_neg h2,e,hβ];simp⟩
 ·exact⟨hf,om,fun _ _=>rfl⟩
theorem pg(N:List Nd)(x:Key):gk N x<=(cA N x.1).lv/\gk N x<=(cA N x.2.1).lv/\gk N x<=(cA N x.2.2).lv:=by unfold gk;omega
theorem LP{N:List Nd}(h:ct N){x:Key}(hx:xY N x)(hl:gk N x<20):gk N x<NB.nb:=by
 have q:∀f,f<N.length->(cA N f).lv<20->(cA N f).lv<NB.nb:=fun f hf h2=>by have:=h.lb _ (af (eD hf));omega
 have h1:=q x.1 hx.1;have h2:=q x.2.1 hx.2.1;have h3:=q x.2.2 hx.2.2;unfold gk at hl|-;omega
theorem qI{N:List Nd}(h:ct N){x:Key}(hx:xY N x)(h20:gk N x<20)(one:Bool):xY N (oe N x one)/\gk N x<gk N (oe N x one)/\∀β,β (gk N x)=one->ev β N (oe N x one).1=ev β N x.1/\ev β N (oe N x one).2.1=ev β N x.2.1/\ev β N (oe N x one).2.2=ev β N x.2.2:=by obtain⟨m1,m2,m3⟩:=pg N x;obtain⟨a1,a2,a3⟩:=yu h hx.1 m1 h20 one;obtain⟨b1,b2,b3⟩:=yu h hx.2.1 m2 h20 one;obtain⟨c1,c2,c3⟩:=yu h hx.2.2 m3 h20 one;exact⟨⟨a1,b1,c1⟩,by show _<min _ (min _ _);simp only[oe];omega,fun β hβ=>⟨a3 β hβ,b3 β hβ,c3 β hβ⟩⟩
structure Ra(op:Bool->Bool->Bool->Bool)(s:Bt)(x:Key)(r:Nat×Bt):Prop where
 v:inv op r.2
 p:∃L,r.2.N=s.N++L
 i:r.1<r.2.N.length
 o:r.2.full=false->s.full=false/\(∀β,ev β r.2.N r.1=op (ev β s.N x.1) (ev β s.N x.2.1) (ev β s.N x.2.2))/\gk s.N x<=(cA r.2.N r.1).lv
theorem pL(op:Bool->Bool->Bool->Bool):∀(k:Nat) (s:Bt) (x:Key),inv op s->xY s.N x->20<gk s.N x+k->Ra op s x (AV op k s x)
 |0,s,x,h,hx,hk=>by have:=(h.g.qn hx.1).1;have:=(pg s.N x).1;omega
 |k+1,s,x,h,hx,hk=>by
  have h2:=h.g.two;obtain⟨z0,z1⟩:=h.g.n0;rw[AV];split
  ·rename_i hf;exact⟨h,⟨[],sm⟩,by simp only;omega,fun e=>by simp only at e;rw[hf]at e;cases e⟩
  rename_i hf;have hf:s.full=false:=by simpa using hf
  have hm20:gk s.N x<=20:=Nat.le_trans (pg s.N x).1 (h.g.qn hx.1).1;obtain⟨m1,m2,m3⟩:=pg s.N x;split
  ·rename_i he;have q:∀f,f<s.N.length->gk s.N x<=(cA s.N f).lv->∀β,ev β s.N f=decide (f=1):=fun f hf hl β=>by have h3:=(h.g.qn hf).2.1 (by have:=(h.g.qn hf).1;omega);rw[tF β h.g hf,if_pos h3]
   refine⟨h,⟨[],sm⟩,by simp only;split<;>omega,fun _=>⟨hf,fun β=>?_,?_⟩⟩
   ·simp only;rw[q _ hx.1 m1,q _ hx.2.1 m2,q _ hx.2.2 m3];cases hop:op (decide (x.1=1)) (decide (x.2.1=1)) (decide (x.2.2=1))with
    |true=>rw[if_pos rfl,(sV β h.g).2]
    |false=>rw[if_neg sm,(sV β h.g).1]
   ·simp only;split
    ·rw[z1];exact hm20
    ·rw[z0];exact hm20
  rename_i he;have hlt:gk s.N x<20:=om;split
  ·rename_i i hi;have hg:=h.k hf _ (JK hi);exact⟨h,⟨[],sm⟩,hg.ii,fun _=>⟨hf,fun β=>hg.ee β,hg.ll⟩⟩
  rename_i hnone;obtain⟨l1,l2,l3⟩:=qI h.g hx hlt false;have R1:=pL op k s _ h l1 om;generalize hr1:AV op k s (oe s.N x false)=r1 at R1;obtain⟨L1,e1⟩:=R1.p;have hx1:xY r1.2.N x:=by rw[e1];exact qN hx L1
  have hm1:gk r1.2.N x=gk s.N x:=by rw[e1];exact qx hx L1
  have hK:(o6 r1.2.N x.1 (gk s.N x) true,o6 r1.2.N x.2.1 (gk s.N x) true,o6 r1.2.N x.2.2 (gk s.N x) true)=oe r1.2.N x true:=by unfold oe;rw[hm1]
  obtain⟨k1,k2,k3⟩:=qI R1.v.g hx1 om true;have R2:=pL op k r1.2 _ R1.v k1 om;simp only[hK];generalize hr2:AV op k r1.2 (oe r1.2.N x true)=r2 at R2;obtain⟨L2,e2⟩:=R2.p;have hi1:r1.1<r2.2.N.length:=by rw[e2];have:=R1.i;simp;omega
  have R3:=yE (s:=r2.2) R2.v (lv:=gk s.N x) hi1 R2.i hlt (LP h.g hx hlt) (fun hf2=>by obtain⟨f1,f2,f3⟩:=R2.o hf2;obtain⟨g1,g2,g3⟩:=R1.o f1;rw[e2,jn _ _ R1.i,<-e2];omega);generalize qq r2.2 (gk s.N x) r1.1 r2.1=r3 at R3;obtain⟨v3,⟨L3,e3⟩,k3',i3,o3⟩:=R3;have epre:r3.2.N=s.N++(L1++(L2++L3)):=by rw[e3,e2,e1];simp
  have main:r3.2.full=false->s.full=false/\(∀β,ev β r3.2.N r3.1=op (ev β s.N x.1) (ev β s.N x.2.1) (ev β s.N x.2.2))/\gk s.N x<=(cA r3.2.N r3.1).lv:=fun hf3=>by
   obtain⟨f2,ev3,lv3⟩:=o3 hf3;obtain⟨f1,ev2,_⟩:=R2.o f2;obtain⟨f0,ev1,_⟩:=R1.o f1;refine⟨f0,fun β=>?_,lv3⟩;rw[ev3];cases hb:β (gk s.N x)with
   |true=>obtain⟨q1,q2,q3⟩:=k3 β (by rw[hm1];exact hb);rw[if_pos rfl,ev2,q1,q2,q3,e1,fS _ _ _ hx.1,fS _ _ _ hx.2.1,fS _ _ _ hx.2.2]
   |false=>obtain⟨q1,q2,q3⟩:=l3 β hb;rw[if_neg sm,e2,fS _ _ _ R1.i,ev1,q1,q2,q3]
  refine⟨⟨v3.g,v3.f,fun hf3 p hp=>?_⟩,⟨_,epre⟩,i3,main⟩;simp only at hf3 hp|-;rcases Km hp with rfl|hp
  ·obtain⟨_,m4,m5⟩:=main hf3;have hx3:xY r3.2.N x:=by rw[epre];exact qN hx _
   refine⟨hx3,i3,fun β=>?_,?_⟩
   ·simp only;rw[m4,epre,fS _ _ _ hx.1,fS _ _ _ hx.2.1,fS _ _ _ hx.2.2]
   ·simp only;rw[epre,qx hx,<-epre];exact m5
  ·exact v3.k hf3 p hp
theorem zu{op:Bool->Bool->Bool->Bool}{N:List Nd}(h:ct N){x:Key}(hx:xY N x){i:Nat}{N':List Nd}(he:sb op N x=some (i,N')):ct N'/\(∃L,N'=N++L)/\i<N'.length/\(∀β,ev β N' i=op (ev β N x.1) (ev β N x.2.1) (ev β N x.2.2))/\gk N x<=(cA N' i).lv:=by
 have R:=pL op 21 ⟨N,false,[]⟩ x ⟨h,fun e=>(by cases e),fun _ p hp=>(by cases hp)⟩ hx om;unfold sb at he;simp only at he;split at he
 ·cases he
 ·rename_i hf;injection he with he
  injection he with h1 h2
  subst h1 h2;obtain⟨_,o1,o2⟩:=R.o (by simpa using hf);exact⟨R.v.g,R.p,R.i,o1,o2⟩
end
end Go.Proofs.Tp
