/- Proved: contracts of functions that the laws of Top reach, and plain facts for them. Conditions: those that each lemma states. -/
import Derived.Test.YtmhkppbollghoaaGreatDoorW1
set_option linter.unusedSectionVars false
set_option linter.unusedSimpArgs false
set_option linter.unusedVariables false
namespace Go.Proofs.Tp
open Go.Vx
def dF:List Vr->List Int->List Sg
 |x::l,a::r=>⟨x.nm,a⟩::dF l r
 |_,_=>[]
theorem iQ:∀(l:List Vr) (a:List Int),a.length=l.length->(dF l a).length=l.length
 |[],_,_=>by simp[dF]
 |x::l,[],h=>by simp at h
 |x::l,a::r,h=>by simp at h;simp[dF,iQ l r h]
theorem pN:∀(l:List Vr) (a:List Int) (x:Vr) (v:Int),a.length=l.length->dF (l++[x]) (a++[v])=dF l a++[⟨x.nm,v⟩]
 |[],[],x,v,_=>rfl
 |[],_::_,_,_,h=>by simp at h
 |_::_,[],_,_,h=>by simp at h
 |y::l,b::a,x,v,h=>by simp at h;simp[dF,pN l a x v h]
theorem t84(p:Pr)(hv:p.vars.length<=16)(a:List Int)(hl:a.length=p.vars.length):CallP Tryz.prog 84 [.agg (p.d.map .d),.d (.sl 1 (a.map iD))] (.d (oI (dF p.vars a))):=by
 have hmL:=dx;rw[bj];refine cc84.go (AC.at AC.wk [1,1,1,0,0] ac84) rfl ?_;simp only[vq,seval,ah,bS,ac84,AC.at,cz,dt (show(a.length:Int)=p.vars.length by omega)];refine fu _ (eJ 5 2 rfl) ?_;simp only[vq,seval];refine bb (fun i:Nat=>⟨cC 34 [(1,.d (.sl 1 (a.map iD))),(2,.aY 5 0 1 0 0),(5,.cl 2 1 i 0 i),(15,.d (cz p.vars)),(16,.d (.int .i64 p.vars.length)),(17,.d (.int .i64 i))],[.live 5 [p.d.map .d],.live 2 (((dF (p.vars.take i) (a.take i)).map Sg.d).map (·.map .d))]⟩) (fun i=>i<=p.vars.length) (fun i=>p.vars.length-i) 0 (bk (by rw[bj];rfl) (by simp only[vq,seval,cz];try trivial)) om ?_;rintro i h1;simp only[vq,seval,cz];refine aZ (fun hc=>?_) (fun hc=>?_)
 ·simp only[aj]at hc;obtain⟨x,hx⟩:=bh (l:=p.vars) (i:=i) om;obtain⟨v,hy⟩:=bh (l:=a) (i:=i) om;simp only[vq,seval];refine⟨om,om,bg hx ?_⟩;simp only[vq,seval];simp only[vq,seval,Vr.d];have hel:=iQ (p.vars.take i) (a.take i) (by simp[hl]);rw[List.length_take,Nat.min_eq_left h1]at hel;refine bW ?_;simp only[vq,seval,bj]
  repeat(refine cc rfl rfl ?_;simp only[vq,seval,bj])
  refine⟨om,om,bg hy ?_⟩;simp only[vq,seval]
  repeat(refine cc rfl rfl ?_;simp only[vq,seval,iD])
  refine⟨by simp[hel],by simp only[bM];omega,?_⟩
  repeat(refine cc rfl rfl ?_;simp only[vq,seval])
  refine bL (i+1) om (bz 2 om (by rw[bQ hx,bQ hy,pN _ _ _ _ (by simp[hl])];simp[Sg.d]) rfl ⟨eE (e:=p.d),nY (l:=(dF (p.vars.take (i+1)) (a.take (i+1))).map Sg.d),trivial⟩ ?_) om;simp only[vq,seval];rw[a8 om om];trivial
 ·simp only[ak]at hc;obtain rfl:i=p.vars.length:=om;rw[al (aq _),al om];simp only[vq,seval];exact da (es:=(dF p.vars a).map Sg.d) rfl (by simp[iQ _ _ hl]) om (fun e he=>by obtain⟨t,_,rfl⟩:=aw.1 he;rfl) (by rw[List.drop_zero,al (by simp[iQ _ _ hl])])
def jQ(x:Vr)(a:Int):Bool:=decide (0<=a)&&(decide (a<2^x.w.toNat)&& !(decide (x.m=0)&& !decide (a=x.v)))
def dq:List Vr->List Int->Bool
 |[],[]=>true
 |x::l,a::r=>jQ x a&&dq l r
 |_,_=>false
theorem gG:∀{l:List Vr} {a:List Int},dq l a=true->a.length=l.length
 |[],[],_=>rfl
 |x::l,a::r,h=>by rw[dq,av]at h;simp[gG h.2]
 |[],_::_,h=>by cases h
 |_::_,[],h=>by cases h
theorem GR:∀{l:List Vr} {a:List Int},a.length≠l.length->dq l a=false:=fun h=>by
 cases h2:dq _ _ with
 |false=>rfl
 |true=>exact absurd (gG h2) h
theorem t150(p:Pr)(hw:∀x∈p.vars,1<=x.w/\x.w<=8)(h16:p.vars.length<=16)(a:List Int)(ha:a.length<=maxLen):CallP Tryz.prog 150 [.agg (p.d.map .d),.d (.sl 1 (a.map iD))] (.d (.bool (dq p.vars a))):=by
 have hmL:=dx;rw[bj];refine cc150.go ac150 rfl ?_;by_cases hl:(a.length:Int)=p.vars.length
 ·simp only[vq,seval,ah,bS,ac150,cz,dt hl];refine bb (fun i:Nat=>⟨cC 51 [(1,.d (.sl 1 (a.map iD))),(2,.aY 5 0 1 0 0),(14,.d (cz p.vars)),(15,.d (.int .i64 p.vars.length)),(16,.d (.int .i64 i))],[.live 5 [p.d.map .d]]⟩) (fun i=>i<=p.vars.length/\dq p.vars a=dq (p.vars.drop i) (a.drop i)) (fun i=>p.vars.length-i) 0 (bk (by rw[bj];rfl) (by simp only[vq,seval,cz];try trivial)) ⟨om,sm⟩ ?_;rintro i ⟨h1,h2⟩;simp only[vq,seval,cz];refine aZ (fun hc=>?_) (fun hc=>?_)
  ·simp only[aj]at hc;obtain⟨x,hx⟩:=bh (l:=p.vars) (i:=i) om;obtain⟨v,hy⟩:=bh (l:=a) (i:=i) om;rw[bt hx,bt hy,dq]at h2;obtain⟨w1,w2⟩:=hw x (af hx);simp only[vq,seval];refine⟨om,om,bg hx ?_⟩;simp only[vq,seval];simp only[vq,seval,Vr.d];refine du rfl ?_;simp only[vq,seval];refine⟨om,om,bg hy ?_⟩;simp only[vq,seval];simp only[vq,seval,iD];have bad:jQ x v=false->dq p.vars a=false:=fun h=>by rw[h2,h,Bool.false_and]
   have hs:=DG w1 w2;by_cases c1:v<0
   ·rw[bad (by unfold jQ;rw[df (show¬0<=v by omega)];rfl)];simp only[vq,seval,ah,bS,dt c1]
   simp only[vq,seval,ah,bS,df c1];refine⟨om,om,bg hy ?_⟩;simp only[vq,seval];simp only[vq,seval,ah,bS,iD];refine⟨om,?_⟩;simp only[vq,seval,ah,bS,hs];by_cases c2:2^x.w.toNat<=v
   ·rw[bad (by unfold jQ;rw[df (show¬v<2^x.w.toNat by omega)];simp only[bS])];simp only[vq,seval,ah,bS,dt c2]
   simp only[vq,seval,ah,bS,df c2];have c0:jQ x v= !(decide (x.m=0)&& !decide (v=x.v)):=by unfold jQ;rw[dt (show 0<=v by omega),dt (show v<2^x.w.toNat by omega)];simp only[bS]
   by_cases c3:x.m=0
   ·simp only[vq,seval,ah,bS,dt c3];refine⟨om,om,bg hy ?_⟩;simp only[vq,seval];simp only[vq,seval,ah,bS,iD];by_cases c4:v=x.v
    ·rw[c0,dt c3,dt c4]at h2;simp only[vq,seval,ah,bS,dt c4];refine bL (i+1) om (bz 1 om rfl rfl ⟨eE (e:=p.d),trivial⟩ ?_) ⟨om,h2.trans (by simp only[bS])⟩;simp only[vq,seval,cz];rw[a8 om om];trivial
    ·rw[bad (by rw[c0,dt c3,df c4];rfl)];simp only[vq,seval,ah,bS,df c4]
   ·rw[c0,df c3]at h2;simp only[vq,seval,ah,bS,df c3];refine bL (i+1) om (bz 1 om rfl rfl ⟨eE (e:=p.d),trivial⟩ ?_) ⟨om,h2.trans (by simp only[bS])⟩;simp only[vq,seval,cz];rw[a8 om om];trivial
  ·simp only[ak]at hc;rw[b4 om,b4 om,dq]at h2;rw[h2];simp only[vq,seval]
 ·rw[GR om];simp only[vq,seval,ah,bS,ac150,cz,df hl]
theorem zQ(s:B):∀(l:List Vr) (a:List Int),a.length=l.length->(sW (dF l a) s).2=l.any fun x=>decide (x.nm=s)
 |[],[],_=>rfl
 |[],_::_,h=>by simp at h
 |_::_,[],h=>by simp at h
 |x::l,v::a,h=>by
  simp at h;rw[dF,sW,List.any_cons];by_cases hx:x.nm=s
  ·rw[if_pos hx];simp[hx]
  ·rw[if_neg hx,zQ s l a h];simp[hx]
theorem vh{l:List Vr}{e:Ex}(h:lC l e=0):e.nodes.any fN=false/\∀x∈e.nodes,x.op=2->(l.any fun y=>decide (y.nm=x.nm))=true:=by
 unfold lC at h;split at h
 ·cases h
 split at h
 ·cases h
 rename_i h1 h2;refine⟨by simpa using h1,fun x hx ho=>?_⟩;have h3:e.nodes.any (gf l)=false:=by simpa using h2
 have h4:=List.any_eq_false.1 h3 x hx;rw[gf,dt ho,Bool.true_and,aj]at h4;have:=qT (fun y:Vr=>decide (y.nm=x.nm)) l 0;rw[<-this,aj];unfold kr at h4;omega
def qe(l:List Vr)(e:Ex):Prop:=nA e/\lE e=0/\lC l e=0
theorem NL(l:List Vr)(hl:l.length<=16)(a:List Int)(ha:a.length=l.length)(e:Ex)(he:qe l e):CallP Tryz.prog 87 [.agg (e.d.map .d),.d (oI (dF l a))] (.cm [.d (.int .i64 (o5 (dF l a) e)),.d (.int .i64 0)]):=by have hmL:=dx;obtain⟨h1,h2⟩:=vh he.2.2;exact t87 _ (by rw[iQ _ _ ha];omega) e he.1 he.2.1 h1 fun x hx ho=>by rw[zQ _ _ _ ha];exact h2 x hx ho
def ie(l:List Vr)(a:List Int)(e:Ex):Bool:= !decide (o5 (dF l a) e=0)
theorem pP{p:Pr}(h:cE p=0):∀x∈p.vars,1<=x.w/\x.w<=8:=fun x hx=>by have:=(n6 (nv (tA (ec h)).1 x hx)).2;omega
theorem t96(p:Pr)(ok:g8 p)(hv:cE p=0)(a:List Int)(ha:a.length<=maxLen)(e:Ex)(he:qe p.vars e):CallP Tryz.prog 96 [.agg (p.d.map .d),.d (.sl 1 (a.map iD)),.agg (e.d.map .d)] (.d (.bool (dq p.vars a&&ie p.vars a e))):=by
 have hl:=gK (ec hv);have C1:=t34 p ok;have C2:=t150 p (pP hv) hl a ha;have C3:=t84 p hl a;rw[bj]at C1 C2 C3|-;refine cc96.go ac96 rfl ?_;simp only[vq,seval,ac96,dI];refine aW (qG p) (C1) ?_;simp only[vq,seval];simp only[vq,seval,ah,bS,dt hv];refine aW (Cs p.d _) (C2) ?_;simp only[vq,seval];cases h:dq p.vars a with
 |false=>simp only[vq,seval,ah,bS]
 |true=>have hal:=gG h;simp only[vq,seval,ah,bS];refine du rfl ?_;simp only[vq,seval,dI];refine aW (Cs p.d _) (C3 hal) ?_;simp only[vq,seval];refine aW (Cs e.d _) (NL p.vars hl a hal e he) ?_;simp only[vq,seval];exact ah
theorem t139(x:Vr)(s:B):CallP Tryz.prog 139 [.agg (x.d.map .d),.d (.ptr [.str s])] (.d (.bool (decide (x.nm=s)))):=by refine cc139.go ac139 rfl ?_;simp only[vq,seval,ac139,Vr.d,List.map_cons,List.map_nil]
theorem ND(l:List Vr)(s:B)(hl:l.length<=maxLen):CallP Tryz.prog 126 [.d (cz l),.fn (.func 139) [] [.d (.ptr [.str s])]] (.d (.bool (l.any fun x=>decide (x.nm=s)))):=xl cc126 cc178 Vr.d l (fun x=>decide (x.nm=s)) [] [.d (.ptr [.str s])] hl (fun _ _=>rfl) (fun _=>rfl) rfl (fun x _=>t139 x s)
def vi(l:List Vr)(e:Ex):Bool:=decide (lE e=0)&&decide (lC l e=0)
theorem Ab(l:List Vr)(e:Ex)(ha:e.nodes.any fN=false):decide (lC l e=0)=(dT [2] e).all fun s=>l.any fun x=>decide (x.nm=s):=by
 have h1:(dT [2] e).all (fun s=>l.any fun x=>decide (x.nm=s))= !(e.nodes.any (gf l)):=by rw[<-xr,List.not_any_eq_all_not];congr 1;funext s;rw[<-qT _ l 0,<-ah];exact decide_eq_decide.2 (by unfold kr;omega)
 rw[h1,lC,ha,if_neg Bool.false_ne_true];cases e.nodes.any (gf l)<;>rfl
theorem t83(p:Pr)(hl:p.vars.length<=maxLen)(e:Ex)(he:nA e):CallP Tryz.prog 83 [.agg (p.d.map .d),.agg (e.d.map .d)] (.d (.bool (vi p.vars e))):=by
 have hm:=hm;have hmL:=dx;have hn:=he.1;have hln:=kL [2] e;rw[bj];unfold vi;refine cc83.go ac83 rfl ?_;simp only[vq,seval,ah,bS,ac83,dI];refine aW (p9 _) (t97 e he) ?_;simp only[vq,seval];by_cases hv:lE e=0
 ·simp only[vq,seval,ah,bS,dt hv,dI];refine aW (p9 _) (t130 e he) ?_;simp only[vq,seval];simp only[vq,seval,an,oV];cases ha:e.nodes.any fN with
  |true=>
   have:¬lC p.vars e=0:=by rw[lC,ha,if_pos rfl];decide
   simp only[vq,seval,ah,bS,df this]
  |false=>
   rw[Ab _ _ ha];simp only[vq,seval,ah,bS,dI];refine aW (p9 _) (t132 e he) ?_;simp only[vq,seval];obtain⟨N,hN⟩:∃N,dT [2] e=N:=⟨_,rfl⟩;rw[hN]at hln|-;refine bb (fun i:Nat=>⟨cC 29 [(2,.aY 5 0 1 0 0),(17,.d (.sl 1 (N.map sD))),(18,.d (.int .i64 N.length)),(19,.d (.int .i64 i))],[.live 5 [p.d.map .d],.live 4 [e.d.map .d]]⟩) (fun i=>i<=N.length/\(N.all fun s=>p.vars.any fun x=>decide (x.nm=s))=((N.drop i).all fun s=>p.vars.any fun x=>decide (x.nm=s))) (fun i=>N.length-i) 0 (bk (by rw[bj]) vt) ⟨om,by rw[List.drop_zero]⟩ ?_;rintro i ⟨h1,h2⟩;simp only[vq,seval,bj];refine aZ (fun hc=>?_) (fun hc=>?_)
   ·simp only[aj]at hc;obtain⟨n,hx⟩:=bh (l:=N) (i:=i) om;rw[bt hx,List.all_cons]at h2;simp only[vq,seval];refine⟨om,om,bg hx ?_⟩;simp only[vq,seval];simp only[vq,seval,sD];refine fw (v:=.d (.bool (p.vars.any fun x=>decide (x.nm=n)))) (by simp[dN,eu,Go.Vx.rowAt,wD,kv,gn]) rfl (by simpa[dJ,eR,sP]using ND p.vars n hl) ?_;cases hv2:p.vars.any fun x=>decide (x.nm=n)with
    |true=>rw[hv2,Bool.true_and]at h2;simp only[vq,seval,ah,bS];refine bL (i+1) om (bz 2 om rfl rfl ⟨eE (e:=p.d),eE (e:=e.d),trivial⟩ ?_) ⟨om,h2⟩;simp only[vq,seval];rw[a8 om om];trivial
    |false=>rw[hv2,Bool.false_and]at h2;rw[h2];simp only[vq,seval,ah,bS]
   ·simp only[ak]at hc;rw[b4 om,List.all_nil]at h2;rw[h2];simp only[vq,seval,ah,bS]
 ·simp only[vq,seval,ah,bS,df hv]
def k8:List Vr->List Int->List Int×Bool
 |x::l,v::a=>if(k8 l a).2=false then(v::(k8 l a).1,false)else if x.m=0 then(v::(k8 l a).1,true)else if v+1<2^x.w.toNat then((v+1)::(k8 l a).1,false)else(0::(k8 l a).1,true)
 |_,_=>([],true)
theorem vN:∀(l:List Vr) (a:List Int),a.length=l.length->(k8 l a).1.length=l.length
 |[],[],_=>rfl
 |[],_::_,h=>by simp at h
 |_::_,[],h=>by simp at h
 |x::l,v::a,h=>by
  have:=vN l a (by simpa using h);rw[k8];split
  ·simp[this]
  split
  ·simp[this]
  split<;>simp[this]
def ni(l:List Vr)(rules:List Ex):Nat->List Int->Bool->Option (List Int)×Bool
 |0,_,o=>(none,o)
 |n+1,a,o=>if o=true then(none,true)else if rules.all (ie l a)=true then(some a,(k8 l a).2)else ni l rules n (k8 l a).1 (k8 l a).2
def jb:List Vr->List Int
 |[]=>[]
 |x::l=>(if x.m=0 then x.v else 0)::jb l
abbrev lW(l:List Vr)(a:List Int)(i:Nat):List Int×Bool:=k8 (l.drop i) (a.drop i)
theorem An{l:List Vr}{a:List Int}{i:Nat}{x:Vr}{v:Int}(hx:l[i]? =some x)(hv:a[i]? =some v):lW l a i=if(lW l a (i+1)).2=false then(v::(lW l a (i+1)).1,false)else if x.m=0 then(v::(lW l a (i+1)).1,true)else if v+1<2^x.w.toNat then((v+1)::(lW l a (i+1)).1,false)else(0::(lW l a (i+1)).1,true):=by unfold lW;rw[bt hx,bt hv,k8]
theorem vY{l:List Vr}{a:List Int}(hl:a.length=l.length):∀{i:Nat},i<=l.length->(lW l a i).2=false->k8 l a=(a.take i++(lW l a i).1,false)
 |0,_,h=>by simp only[lW,List.drop_zero,List.take_zero,List.nil_append]at h|-;rw[<-h]
 |i+1,hi,h=>by obtain⟨x,hx⟩:=bh (l:=l) (i:=i) om;obtain⟨v,hv⟩:=bh (l:=a) (i:=i) om;have e:=An hx hv;rw[if_pos h]at e;rw[vY hl (i:=i) om (by rw[e]),e,bQ hv];simp
abbrev kX(r0 r1:bd)(p:Pr)(rl:List Ex)(a:List Int)(o:Bool)(n:Int)(T:Go.Vx.Rows):Go.Vx.Rows:=r0::r1::rI a:: .live 9 [[.d (cz p.vars),.d (.sl 4 (p.cj.map Ex.d)),.d (.sl 4 (p.soft.map Ex.d)),.d (.sl 2 (p.bZ.map Ds.d)),.d (.sl 1 (p.br.map gD)),.d (.sl 4 (rl.map Ex.d)),.cl 1 2 a.length 0 a.length,.d (.bool o),.d (.int .i64 n)]]::T
theorem oS{L:List Int}{j:Nat}{v:Int}(h:L[j]? =some v):((L.map iD).map (·.map V.d))[j]? =some [.d (.int .i64 v)]:=by rw[ar,ar,h];rfl
theorem lf(L:List Int)(j:Nat)(v:Int):((L.map iD).map (·.map V.d)).set j [.d (.int .i64 v)]=((L.set j v).map iD).map (·.map .d):=by rw[List.map_set,List.map_set];rfl
theorem dA{α:Type}(r:List α)(v w:α):∀(l:List α) {j:Nat},l.length=j->(l++v::r).set j w=l++w::r
 |[],_,h=>by subst h;rfl
 |x::l,_,h=>by subst h;exact congrArg (x:: ·) (dA r v w l rfl)
theorem yY:∀{l:List Vr} {a:List Int} {j:Nat} {x:Vr} {v:Int},dq l a=true->l[j]? =some x->a[j]? =some v->jQ x v=true
 |x::l,w::a,0,y,v,h,h1,h2=>by rw[dq,av]at h;simp at h1 h2;subst h1 h2;exact h.1
 |x::l,w::a,j+1,y,v,h,h1,h2=>by rw[dq,av]at h;exact yY h.2 (by simpa using h1) (by simpa using h2)
 |[],_,_,_,_,_,h1,_=>by simp at h1
 |_::_,[],_,_,_,h,_,_=>by cases h
theorem uT{x:Vr}{v:Int}(h:jQ x v=true):0<=v/\v<2^x.w.toNat:=by unfold jQ at h;simp at h;exact⟨h.1,h.2.1⟩
theorem K9{w:Int}(h1:1<=w)(h2:w<=8):(2:Int)^w.toNat<=256:=by
 have:∀k:Nat,k<=8->(2:Int)^k<=256:=by decide
 exact this _ om
theorem t86(r0 r1:bd)(p:Pr)(hw:∀x∈p.vars,1<=x.w/\x.w<=8)(h16:p.vars.length<=16)(rl:List Ex)(a:List Int)(ha:dq p.vars a=true)(o:Bool)(n:Int)(T:Go.Vx.Rows):dn Tryz.prog 86 [.aY 9 3 1 0 0] (kX r0 r1 p rl a o n T) (fun _ R=>R=kX r0 r1 p rl (k8 p.vars a).1 (o||(k8 p.vars a).2) n T):=by
 have hmL:=dx;have hl:=gG ha;refine cc86.gi ac86 rfl ?_;have hP:(k8 p.vars a).1.length=a.length:=by rw[vN _ _ hl,hl]
 simp only[vq,seval,ac86,rI,an];obtain⟨st,hst⟩:∃st:Nat->List Int,st=fun j=>a.take j++(lW p.vars a j).1:=⟨_,rfl⟩;have hsl:∀j,j<=p.vars.length->(st j).length=a.length:=fun j hj=>by rw[hst];simp only[az,List.length_take];rw[vN _ _ (by simp[hl])];simp;omega
 have h0:st p.vars.length=a:=by rw[hst];simp only[lW];rw[b4 om,b4 om,al om];simp[k8]
 refine bb (fun j:Nat=>⟨cC 59 [(0,.aY 9 3 1 0 0),(2,.d (.int .i64 ((j:Int)-1)))],kX r0 r1 p rl (st j) o n T⟩) (fun j=>j<=p.vars.length/\(lW p.vars a j).2=true) (fun j=>j) p.vars.length (bk (by rw[h0]) (by simp only[vq,seval];rw[a8 om om,hl])) ⟨aq _,by simp only[lW];rw[b4 om,b4 om];rfl⟩ ?_;rintro j ⟨h1,h2⟩;cases j with
 |zero=>
  simp only[vq,seval];have e:k8 p.vars a=(st 0,true):=by
   have:k8 p.vars a=lW p.vars a 0:=by simp[lW]
   rw[hst];simp only[List.take_zero,List.nil_append];rw[this,<-h2]
  show _=kX r0 r1 p rl (k8 p.vars a).1 (o||(k8 p.vars a).2) n T;rw[e,Bool.or_true]
 |succ j=>
  obtain⟨x,hx⟩:=bh (l:=p.vars) (i:=j) om;obtain⟨v,hv⟩:=bh (l:=a) (i:=j) om;have hsj:(st (j+1))[j]? =some v:=by rw[hst];simp only;rw[aH so,List.getElem?_take,if_pos om];exact hv
  have e:=An hx hv;rw[if_neg (by rw[h2];simp)]at e;have hj1:(((j+1:Nat):Int)-1)=(j:Nat):=om;rw[hj1];simp only[vq,seval,hsl (j+1) h1,rI,an,dt (show(0:Int)<=(j:Int) by omega),cz];refine⟨om,om,bg hx ?_⟩;simp only[vq,seval];simp only[vq,seval,Vr.d];have hsj2:st (j+1)=a.take j++v::(lW p.vars a (j+1)).1:=by rw[hst];simp only;rw[bQ hv];simp
  by_cases hm0:x.m=0
  ·rw[if_pos hm0]at e;have hs0:st j=st (j+1):=by rw[hsj2,hst];simp only;rw[e]
   simp only[vq,seval,dt hm0];refine bL j om (bk (by rw[hs0]) ?_) ⟨om,by rw[e]⟩;simp only[vq,seval];rw[a8 om om]
  rw[if_neg hm0]at e;simp only[vq,seval,df hm0];have hLl:=hsl (j+1) h1;generalize st (j+1)=L at hsj hsj2 hLl|-;simp only[vq,seval,rI,an];refine⟨om,om,b8 (oS hsj) ?_⟩;simp only[vq,seval,rI,an];refine⟨om,om,b8 (oS hsj) ?_⟩;obtain⟨w1,w2⟩:=hw x (af hx);obtain⟨v1,v2⟩:=uT (yY ha hx hv);have hp8:=K9 w1 w2;have hs:=DG w1 w2;simp only[vq,seval,lf];rw[a8 (n:=v+1) om om];have hset:(L.set j (v+1))[j]? =some (v+1):=by rw[List.getElem?_set_self om]
  have hsl2:(L.set j (v+1)).length=L.length:=by simp
  generalize hL2:L.set j (v+1)=L2 at hset hsl2|-;refine du rfl ?_;simp only[vq,seval,rI,an];refine⟨om,om,hsl2,hsl2,b8 (oS hset) ?_⟩;simp only[vq,seval,cz];refine⟨om,om,bg hx ?_⟩;simp only[vq,seval];simp only[vq,seval,Vr.d];refine⟨om,?_⟩;simp only[vq,seval,hs];by_cases hlt:v+1<2^x.w.toNat
  ·rw[if_pos hlt]at e;simp only[vq,seval,dt hlt];have he:=vY hl (i:=j) om (by rw[e]);rw[e]at he;show _=kX r0 r1 p rl (k8 p.vars a).1 (o||(k8 p.vars a).2) n T;have h3:L2=a.take j++(v+1)::(lW p.vars a (j+1)).1:=by rw[<-hL2,hsj2,dA _ _ _ _ so]
   rw[he,Bool.or_false,<-h3];simp only[kX,rI,hsl2,cz]
  ·rw[if_neg hlt]at e;simp only[vq,seval,df hlt];refine⟨om,om,hsl2,hsl2,b8 (oS hset) ?_⟩;simp only[vq,seval,lf];have h3:L2.set j 0=st j:=by rw[<-hL2,hsj2,dA _ _ _ _ so,dA _ _ _ _ so,hst];simp only;rw[e]
   refine bL j om (bk (by rw[h3];simp only[kX,rI,hsl j om,hLl,cz]) ?_) ⟨om,by rw[e]⟩;simp only[vq,seval];rw[a8 om om]
def okB(p:Pr)(rl:List Ex)(n:Int):Bool:=decide (cE p=0)&&(!decide (n<0)&&(!decide (262144<n)&&rl.all (vi p.vars)))
theorem vV(l:List Vr):(jb l).length=l.length:=by
 induction l with
 |nil=>rfl
 |cons x l ih=>simp[jb,ih]
theorem QC(a b:List D):([V.agg (a.map .d),V.agg (b.map .d)]:List V).all kv=true:=by simp[kv,lY,gn]
def BD(l:List Vr)(i:Nat):List Int:=jb (l.take i)++List.replicate (l.length-i) 0
theorem tT(l:List Vr){i:Nat}(h:i<=l.length):(BD l i).length=l.length:=by simp[BD,vV];omega
theorem A9(l:List Vr)(x:Vr):jb (l++[x])=jb l++[if x.m=0 then x.v else 0]:=by
 induction l with
 |nil=>rfl
 |cons y l ih=>simp[jb,ih]
theorem KS{l:List Vr}{i:Nat}{x:Vr}(h:l[i]? =some x):BD l i=jb (l.take i)++0::List.replicate (l.length-(i+1)) 0/\BD l (i+1)=jb (l.take i)++(if x.m=0 then x.v else 0)::List.replicate (l.length-(i+1)) 0:=by
 have hi:=(ad.1 h).1;refine⟨?_,?_⟩
 ·rw[BD,show l.length-i=(l.length-(i+1))+1 by omega,List.replicate_succ]
 ·rw[BD,bQ h,A9];simp
theorem Ot{d1 d2 d3 d4 d5 d6 d7 d8:D}{k:Nat}:dz 4 (.live 9 [[.d d1,.d d2,.d d3,.d d4,.d d5,.d d6,.cl 1 2 k 0 k,.d d7,.d d8]]):=fun x hx v hv=>by simp at hx;subst hx;simp at hv;rcases hv with rfl|rfl|rfl|rfl|rfl|rfl|rfl|rfl|rfl<;>rfl
theorem t42(p:Pr)(ok:g8 p)(rl:List Ex)(hr:∀e∈rl,nA e)(hrl:rl.length<=4294967296)(n:Int):dn Tryz.prog 42 [.agg (p.d.map .d),.d (.sl 4 (rl.map Ex.d)),.d (.int .i64 n)] [.live 5 [p.d.map .d]] (fun v R=>(okB p rl n=true/\v=.cm [.aY 9 3 1 0 0,.d (.int .i64 0)]/\R=kX (.live 5 [p.d.map .d]) (.live 5 [p.d.map .d]) p rl (jb p.vars) false n [])\/(okB p rl n=false/\v=.cm [.d .kY,.d (.int .i64 1)])):=by
 have hm:=hm;have hmL:=dx;have hl:=ok.vars.1;have C1:=t34 p ok;have C2:=fun e he=>t83 p hl e he;rw[bj]at C1 C2|-;refine cc42.gi ac42 rfl ?_;simp only[vq,seval,ac42];refine aW (qG p) (C1) ?_;simp only[vq,seval];by_cases hv:cE p=0
 ·simp only[vq,seval,ah,bS,dt hv];by_cases h0:n<0
  ·simp only[vq,seval,ah,bS,dt h0];exact .inr ⟨by rw[okB,dt hv,dt h0];rfl,rfl⟩
  simp only[vq,seval,ah,bS,df h0];by_cases h1:262144<n
  ·simp only[vq,seval,ah,bS,dt h1];exact .inr ⟨by rw[okB,dt hv,df h0,dt h1];rfl,rfl⟩
  simp only[vq,seval,ah,bS,df h1];have hB:okB p rl n=rl.all (vi p.vars):=by rw[okB,dt hv,df h0,df h1];simp only[bS]
  have h16:=gK (ec hv);refine bb (fun i:Nat=>⟨cC 65 [(1,.d (.sl 4 (rl.map Ex.d))),(2,.d (.int .i64 n)),(3,.aY 5 1 1 0 0),(24,.d (.sl 4 (rl.map Ex.d))),(25,.d (.int .i64 rl.length)),(26,.d (.int .i64 i))],[.live 5 [p.d.map .d],.live 5 [p.d.map .d]]⟩) (fun i=>i<=rl.length/\rl.all (vi p.vars)=(rl.drop i).all (vi p.vars)) (fun i=>rl.length-i) 0 (bk (by rw[bj]) vt) ⟨om,by rw[List.drop_zero]⟩ ?_;rintro i ⟨g1,g2⟩;simp only[vq,seval,bj];refine aZ (fun hc=>?_) (fun hc=>?_)
  ·simp only[aj]at hc;obtain⟨e,hx⟩:=bh (l:=rl) (i:=i) om;rw[bt hx,List.all_cons]at g2;simp only[vq,seval];refine⟨om,om,bg hx ?_⟩;simp only[vq,seval];simp only[vq,seval,dI];refine aW (QC p.d e.d) (C2 e (hr e (af hx))) ?_;simp only[vq,seval];cases hk:vi p.vars e with
   |false=>rw[hk,Bool.false_and]at g2;simp only[vq,seval,ah,bS];exact .inr ⟨by rw[hB,g2],rfl⟩
   |true=>rw[hk,Bool.true_and]at g2;simp only[vq,seval,ah,bS];refine bL (i+1) om (bz 2 sm rfl rfl ⟨eE (e:=p.d),eE (e:=p.d),trivial⟩ ?_) ⟨om,g2⟩;simp only[vq,seval];rw[a8 om om];trivial
  ·simp only[ak]at hc;rw[b4 om,List.all_nil]at g2;simp only[vq,seval];refine bW ?_;simp only[vq,seval,dI]
   repeat(refine cc rfl rfl ?_;simp only[vq,seval,dI])
   refine⟨om,om,om,om,?_⟩
   repeat(refine cc rfl rfl ?_;simp only[vq,seval,dI])
   simp only[vq,seval,cz];have e0:List.replicate p.vars.length [V.d (D.int .i64 0)]=(((BD p.vars 0).map iD).map (·.map V.d)):=by simp[BD,jb,iD]
   rw[e0];refine bb (fun i:Nat=>⟨cC 65 [(3,.aY 5 1 1 0 0),(10,.aY 9 3 1 0 0),(45,.d (cz p.vars)),(46,.d (.int .i64 p.vars.length)),(47,.d (.int .i64 i))],kX (.live 5 [p.d.map .d]) (.live 5 [p.d.map .d]) p rl (BD p.vars i) false n []⟩) (fun i=>i<=p.vars.length) (fun i=>p.vars.length-i) 0 (bk (by simp only[kX,rI,tT _ (Nat.zero_le _),bj,cz]) (by simp only[vq,seval,cz];try trivial)) om ?_;rintro i h1;have hbl:=tT p.vars h1;simp only[vq,seval,bj,rI,an,cz];refine aZ (fun hc=>?_) (fun hc=>?_)
   ·simp only[aj]at hc;obtain⟨x,hx⟩:=bh (l:=p.vars) (i:=i) om;simp only[vq,seval];refine⟨om,om,bg hx ?_⟩;simp only[vq,seval];simp only[vq,seval,Vr.d];obtain⟨b1,b2⟩:=KS hx;have hb0:(jb (p.vars.take i)).length=i:=by rw[vV];simp;omega
    have hc':i+1<=p.vars.length:=om;by_cases h0:x.m=0
    ·rw[if_pos h0]at b2;simp only[vq,seval,dt h0];refine bW ?_;simp only[vq,seval,rI,an,lf]
     repeat(refine cc rfl rfl ?_;simp only[vq,seval,rI,an,lf])
     refine⟨om,om,?_⟩
     repeat(refine cc rfl rfl ?_;simp only[vq,seval,rI,an,lf])
     refine b8 (oS (v:=0) (by rw[b1,aJ om,hb0,Nat.sub_self];rfl)) ?_;simp only[vq,seval,rI,an,lf]
     repeat(refine cc rfl rfl ?_;simp only[vq,seval,rI,an,lf])
     rw[b1,dA _ _ _ _ hb0,<-b2];refine bL (i+1) om (bz 4 om (by rw[<-b1];simp only[kX,rI,List.take,bj,cz,tT _ hc',hbl]) rfl ⟨eE (e:=p.d),eE (e:=p.d),nY (l:=(BD p.vars (i+1)).map iD),Ot,trivial⟩ ?_) om;simp only[vq,seval,cz];rw[a8 om om];trivial
    ·rw[if_neg h0,<-b1]at b2;simp only[vq,seval,df h0];refine bL (i+1) om (bz 4 om (by rw[b2];simp only[kX,rI,List.take,bj,cz]) rfl ⟨eE (e:=p.d),eE (e:=p.d),nY (l:=(BD p.vars (i+1)).map iD),Ot,trivial⟩ ?_) om;simp only[vq,seval,cz];rw[a8 om om];trivial
   ·simp only[ak]at hc;obtain rfl:i=p.vars.length:=om;have e:BD p.vars p.vars.length=jb p.vars:=by simp[BD]
    rw[e];simp only[vq,seval];exact .inl ⟨by rw[hB,g2],rfl,rfl⟩
 ·simp only[vq,seval,ah,bS,df hv];exact .inr ⟨by rw[okB,df hv];rfl,rfl⟩
end Go.Proofs.Tp
