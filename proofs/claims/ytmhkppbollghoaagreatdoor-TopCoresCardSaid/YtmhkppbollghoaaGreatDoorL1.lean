/- Proved: contracts of functions that the laws of Top reach, and plain facts for them. Conditions: those that each lemma states. -/
import Derived.Test.YtmhkppbollghoaaGreatDoorE9
import Derived.Test.YtmhkppbollghoaaGreatDoorE8
import Derived.Test.YtmhkppbollghoaaGreatDoorF6
import Derived.Test.YtmhkppbollghoaaGreatDoorZ1
import Derived.Test.YtmhkppbollghoaaGreatDoorT1
set_option linter.unusedSectionVars false
set_option linter.unusedSimpArgs false
set_option linter.unusedVariables false
namespace Go.Proofs.Tp
open Go.Vx
mutual
def vS(d:Nat):Ex->Int
 | .mk _ _ _ xs=>l8 d xs 1
def l8(d:Nat):List Ex->Int->Int
 |[],n=>n
 |x::xs,n=>if n<100/\d<30 then l8 d xs (n+vS (d+1) x)else n
end
theorem u9(d:Nat)(e:Ex):vS d e=l8 d e.args 1:=by cases e;rw[vS];rfl
mutual
def nc(d:Nat):Ex->Bool
 | .mk op n nm xs=>if 25<d\/d=0/\60<vS 0 (.mk op n nm xs)then false else oO d xs
def oO(d:Nat):List Ex->Bool
 |[]=>true
 |x::xs=>nc (d+1) x&&oO d xs
end
theorem uq(d:Nat)(e:Ex):nc d e=if 25<d\/d=0/\60<vS 0 e then false else oO d e.args:=by cases e;rw[nc];rfl
def sr(e:Ex):Prop:=∀x∈e.nodes,CD x
theorem v8{m:Nat}{e:Ex}(hle:e.nodes.length<=m+1)(he:sr e):∀x∈e.args,x.nodes.length<=m/\sr x:=fun x hx=>by have h:=eU hx;rw[Ex.bT,List.length_cons]at hle;exact⟨om,fun y hy=>he y (by rw[Ex.bT];exact List.mem_cons_of_mem _ (eV hx hy))⟩
theorem vK{d:Nat}(hd:d<=30){B:Int}(hB:0<=B)(h:d<30->∀(xs:List Ex),∀x∈xs,1<=vS (d+1) x/\vS (d+1) x<=B):∀(xs:List Ex) (n:Int),1<=n->n<=99+B->1<=l8 d xs n/\l8 d xs n<=99+B
 |[],n,h1,h2=>by rw[l8];omega
 |x::xs,n,h1,h2=>by
  rw[l8];split
  ·rename_i hc;obtain⟨b1,b2⟩:=h hc.2 (x::xs) x sm;exact vK hd hB h xs _ om om
  ·omega
theorem yi:∀(k d:Nat),d+k=30->∀e:Ex,1<=vS d e/\vS d e<=100*((k:Int)+1)
 |0,d,hk,e=>by rw[u9];have:=vK (d:=d) om (B:=0) om (fun h=>om) e.args 1 om om;omega
 |k+1,d,hk,e=>by rw[u9];have:=vK (d:=d) om (B:=100*((k:Int)+1)) om (fun _ xs x _=>yi k (d+1) om x) e.args 1 om om;omega
theorem t82:∀(m:Nat) (e:Ex) (d:Nat),e.nodes.length<=m->sr e->d<=30->CallP Tryz.prog 82 [.agg (e.d.map .d),.d (.int .i64 d)] (.d (.int .i64 (vS d e)))
 |0,e,d,h,_,_=>by have:=cZ e;omega
 |m+1,e,d,hle,he,hd=>by
  have hm:=hm;have hA:=(he e (by rw[Ex.bT];simp)).1;have hsub:=v8 hle he;have hmL:=dx;rw[e.jB];refine cc82.go ac82 rfl ?_;simp only[vq,seval,ac82,List.map_cons,List.map_nil];rw[u9];refine bb (fun t:Nat×Int=>⟨cC 33 [(1,.d (.int .i64 d)),(2,.aY 4 0 1 0 0),(5,.d (.int .i64 t.2)),(6,.d (.int .i64 t.1))],[.live 4 [[.d (.int .i64 e.op),.d (.int .i64 e.n),.d (.str e.nm),.d (.sl 4 (e.args.map Ex.d))]]]⟩) (fun t=>t.1<=e.args.length/\1<=t.2/\t.2<=4000/\l8 d e.args 1=l8 d (e.args.drop t.1) t.2) (fun t=>e.args.length-t.1) (0,1) (bk rfl vt) ⟨om,sm,sm,rfl⟩ ?_;rintro⟨i,n⟩ ⟨h1,h2,h3,h4⟩;dsimp only at h1 h2 h3 h4;simp only[vq,seval];by_cases c1:i<e.args.length
  ·obtain⟨x,hx⟩:=bh (l:=e.args) (i:=i) c1;rw[bt hx,l8]at h4;simp only[vq,seval,dt (show(i:Int)<(e.args.length:Int) by omega)];by_cases c2:n<100
   ·simp only[vq,seval,dt c2];by_cases c3:d<30
    ·rw[if_pos ⟨c2,c3⟩]at h4;simp only[vq,seval,dt (show(d:Int)<30 by omega)];refine⟨om,om,bg hx ?_⟩;simp only[vq,seval];simp only[vq,seval,dI];have hw:IntKind.i64.wrap ((d:Int)+1)=((d+1:Nat):Int):=by rw[a8 om om];rfl
     rw[hw];obtain⟨b1,b2⟩:=yi (29-d) (d+1) om x;refine aW nh ((t82 m x (d+1) (hsub x (af hx)).1 (hsub x (af hx)).2 om)) ?_;simp only[vq,seval];rw[a8 (n:=n+vS (d+1) x) om om];refine bL (i+1,n+vS (d+1) x) (by simp only;omega) (bk rfl ?_) ⟨by simp only;omega,by simp only;omega,by simp only;omega,h4⟩;simp only[vq,seval];rw[a8 om om]
     try trivial
    ·rw[if_neg om]at h4;rw[h4];simp only[vq,seval,df (show¬(d:Int)<30 by omega)]
   ·rw[if_neg om]at h4;rw[h4];simp only[vq,seval,df c2]
  ·obtain rfl:i=e.args.length:=om;rw[List.drop_length,l8]at h4;rw[h4];simp only[vq,seval,df (show¬((e.args.length:Nat):Int)<(e.args.length:Int) by omega)]
theorem t38:∀(m:Nat) (e:Ex) (d:Nat),e.nodes.length<=m->sr e->d<=30->CallP Tryz.prog 38 [.agg (e.d.map .d),.d (.int .i64 d)] (.d (.bool (nc d e)))
 |0,e,d,h,_,_=>by have:=cZ e;omega
 |m+1,e,d,hle,he,hd=>by
  have hm:=hm;have hA:=(he e (by rw[Ex.bT];simp)).1;have hsub:=v8 hle he;have hmL:=dx;have C:=t82 (m+1) e 0 hle he om;rw[e.jB]at C|-;refine cc38.go (AC.at F9 [1] ac38) rfl ?_;simp only[vq,seval,ac38,AC.at,F9,List.map_cons,List.map_nil];rw[uq];have R0:dz 0 (.live 4 [[V.d (.int .i64 e.op),.d (.int .i64 e.n),.d (.str e.nm),.d (.sl 4 (e.args.map Ex.d))]]):=eE (e:=[.int .i64 e.op,.int .i64 e.n,.str e.nm,.sl 4 (e.args.map Ex.d)]);refine px (fun S=>S=⟨cC 33 [(1,.d (.int .i64 d)),(2,.aY 4 0 1 0 0)],[.live 4 [[.d (.int .i64 e.op),.d (.int .i64 e.n),.d (.str e.nm),.d (.sl 4 (e.args.map Ex.d))]]]⟩/\¬(25<d\/d=0/\60<vS 0 e)) ?_ (fun S' h=>?_)
  ·by_cases c1:25<d
   ·rw[if_pos (.inl c1)];simp only[vq,seval,dt (show(25:Int)<(d:Int) by omega)];change ow [RS.tmp 4] (.d (.bool false)) .ret _;simp only[vq,seval]
   simp only[vq,seval,df (show¬(25:Int)<(d:Int) by omega)];by_cases c2:d=0
   ·simp only[vq,seval,dt (show(d:Int)=0 by omega)];refine aW nh (C) ?_;simp only[vq,seval];by_cases c3:60<vS 0 e
    ·rw[if_pos (.inr ⟨c2,c3⟩)];simp only[vq,seval,dt c3];change ow [RS.tmp 4] (.d (.bool false)) .ret _;simp only[vq,seval]
    ·simp only[vq,seval,df c3];exact jN _ (a9 vt) ⟨rfl,om⟩
   ·simp only[vq,seval,df (show¬(d:Int)=0 by omega)];exact jN _ (a9 vt) ⟨rfl,om⟩
  ·obtain⟨rfl,hno⟩:=h;rw[if_neg hno];simp only[vq,seval];refine bb (fun i:Nat=>⟨cC 33 [(1,.d (.int .i64 d)),(2,.aY 4 0 1 0 0),(5,.d (.int .i64 i))],[.live 4 [[.d (.int .i64 e.op),.d (.int .i64 e.n),.d (.str e.nm),.d (.sl 4 (e.args.map Ex.d))]]]⟩) (fun i=>i<=e.args.length/\oO d e.args=oO d (e.args.drop i)) (fun i=>e.args.length-i) 0 (bk rfl vt) ⟨om,rfl⟩ ?_;rintro i ⟨h1,h2⟩;simp only[vq,seval];refine aZ (fun hc=>?_) (fun hc=>?_)
   ·simp only[aj]at hc;obtain⟨x,hx⟩:=bh (l:=e.args) (i:=i) om;rw[bt hx,oO]at h2;simp only[vq,seval];refine⟨om,om,bg hx ?_⟩;simp only[vq,seval];simp only[vq,seval,dI];have hw:IntKind.i64.wrap ((d:Int)+1)=((d+1:Nat):Int):=by rw[a8 om om];rfl
    rw[hw];have Cx:=t38 m x (d+1) (hsub x (af hx)).1 (hsub x (af hx)).2 om;refine aW nh Cx ?_;cases hb:nc (d+1) x with
    |false=>rw[h2,hb,Bool.false_and];simp only[vq,seval]
    |true=>
     rw[hb,Bool.true_and]at h2;simp only[vq,seval];refine bL (i+1) om (bk rfl ?_) ⟨om,h2⟩;simp only[vq,seval];rw[a8 om om]
     try trivial
   ·simp only[ak]at hc;obtain rfl:i=e.args.length:=om;rw[List.drop_length,oO]at h2;rw[h2];simp only[vq,seval]
theorem o7{d:Nat}:∀{xs:List Ex},oO d xs=true->∀x∈xs,nc (d+1) x=true
 |[],_,x,hx=>by cases hx
 |y::xs,h,x,hx=>by
  rw[oO,av]at h;rcases aP.1 hx with rfl|hx
  ·exact h.1
  ·exact o7 h.2 x hx
theorem AH{k:Nat}:∀{xs:List Ex},(∀x∈xs,x.dep<=k)->Ex.gS xs<=k
 |[],_=>Nat.zero_le _
 |x::xs,h=>by rw[Ex.gS];have:=h x sm;have:=AH (xs:=xs) fun y hy=>h y (by simp[hy]);omega
theorem uZ:∀(m:Nat) (e:Ex) (d:Nat),e.nodes.length<=m->nc d e=true->d+e.dep<=26
 |0,e,d,h,_=>by have:=cZ e;omega
 |m+1,e,d,hle,h=>by
  rw[uq]at h;split at h
  ·cases h
  rename_i hno;have hl:∀x∈e.args,x.nodes.length<=m:=fun x hx=>by have:=eU hx;rw[Ex.bT,List.length_cons]at hle;omega
  rw[Ex.jL];cases hx:e.args with
  |nil=>simp[Ex.gS];omega
  |cons x xs=>
   have hk:d+1<=25:=by have:=uZ m x (d+1) (hl x (by rw[hx];simp)) (o7 h x (by rw[hx];simp));have:=x.jL;omega
   rw[<-hx];have:=AH (k:=25-d) (xs:=e.args) fun x hx=>by have:=uZ m x (d+1) (hl x hx) (o7 h x hx);omega
   omega
theorem uQ(d:Nat)(hd:d<=29):∀(xs:List Ex) (n:Int),n<=l8 d xs n
 |[],n=>by rw[l8];omega
 |x::xs,n=>by
  rw[l8];split
  ·have h1:=(yi (29-d) (d+1) om x).1;have h2:=uQ d hd xs (n+vS (d+1) x);omega
  ·omega
theorem wX:∀(m:Nat) (e:Ex) (d:Nat),e.nodes.length<=m->d+e.dep<=30->vS d e<100->vS d e=e.nodes.length
 |0,e,d,h,_,_=>by have:=cZ e;omega
 |m+1,e,d,hle,hd,hn=>by
  have hl:∀x∈e.args,x.nodes.length<=m:=fun x hx=>by have:=eU hx;rw[Ex.bT,List.length_cons]at hle;omega
  rw[Ex.jL]at hd;rw[u9]at hn|-;have key:∀(xs:List Ex) (n:Int),(∀x∈xs,x∈e.args)->Ex.gS xs<=Ex.gS e.args->0<=n->l8 d xs n<100->l8 d xs n=n+(Ex.bX xs).length:=by
   intro xs;induction xs with
   |nil=>intro n _ _ _ _;rw[l8];simp[Ex.bX]
   |cons x xs ih=>intro n hin hdp h0 hlt;rw[Ex.gS]at hdp;have hxd:=x.jL;have hm:=uQ d om (x::xs) n;have hn1:n<100:=om;rw[l8,if_pos om]at hlt|-;have h2:=uQ d om xs (n+vS (d+1) x);have hx:=wX m x (d+1) (hl x (hin x sm)) om om;rw[ih _ (fun y hy=>hin y (by simp[hy])) om om hlt,hx,Ex.bX,az];omega
  rw[key e.args 1 (fun x hx=>hx) (aq _) om hn,Ex.bT,List.length_cons];omega
theorem zD{e:Ex}(he:sr e)(h:nc 0 e=true):nA e:=by
 have h1:=uZ _ e 0 (aq _) h;rw[uq]at h;split at h
 ·cases h
 rename_i hno;have:=wX _ e 0 (aq _) om om;exact⟨om,he⟩
structure Jb(p:Pr):Prop where
 nm:∀x∈p.vars,x.nm.length+3<=maxLen
 ex:∀e∈p.cj++p.soft,sr e
def rB(p:Pr):Bool:=
 decide (p.vars.length<=20/\p.cj.length<=20/\p.soft.length<=20/\p.bZ.length<=20/\p.br.length<=20)&&(p.cj.all (nc 0)&&(p.soft.all (nc 0)&&(p.bZ.all (fun x=>decide (x.ws.length<=20))&&p.br.all (fun g=>decide (g.length<=20)))))
theorem y9{p:Pr}(h:Jb p)(hs:rB p=true):g8 p:=by have hmL:=dx;unfold rB at hs;simp only[av,aj,aG]at hs;obtain⟨⟨l1,l2,l3,l4,l5⟩,h1,h2,h3,h4⟩:=hs;exact⟨⟨om,h.nm⟩,fun e he=>zD (h.ex e (by simp[he])) (h1 e he),fun e he=>zD (h.ex e (by simp[he])) (h2 e he),om,fun x hx=>by have:=h3 x hx;omega,fun g hg=>by have:=h4 g hg;omega⟩
theorem t14(p:Pr)(h:Jb p):CallP Tryz.prog 14 [.agg (p.d.map .d)] (.d (.bool (rB p))):=by
 have hmL:=dx;refine cc14.go (AC.at F9 [1] ac14) rfl ?_;rw[bj];simp only[vq,seval,ac14,AC.at,F9];refine px (fun S=>S=⟨cC 92 [(1,.aY 5 0 1 0 0)],[.live 5 [p.d.map .d]]⟩/\(p.vars.length<=20/\p.cj.length<=20/\p.soft.length<=20/\p.bZ.length<=20/\p.br.length<=20)) ?_ (fun S' hS=>?_)
 ·have hf:¬(p.vars.length<=20/\p.cj.length<=20/\p.soft.length<=20/\p.bZ.length<=20/\p.br.length<=20)->rB p=false:=fun h=>by unfold rB;rw[decide_eq_false h,Bool.false_and]
  by_cases c0:20<p.vars.length
  ·rw[hf om];simp only[vq,seval,cz,an,dt (show(20:Int)<(p.vars.length:Int) by omega)];change ow [RS.tmp 2] (.d (.bool false)) .ret _;simp only[vq,seval]
  simp only[vq,seval,cz,an,df (show¬(20:Int)<(p.vars.length:Int) by omega)];by_cases c1:20<p.cj.length
  ·rw[hf om];simp only[vq,seval,cz,an,dt (show(20:Int)<(p.cj.length:Int) by omega)];change ow [RS.tmp 2] (.d (.bool false)) .ret _;simp only[vq,seval]
  simp only[vq,seval,cz,an,df (show¬(20:Int)<(p.cj.length:Int) by omega)];by_cases c2:20<p.soft.length
  ·rw[hf om];simp only[vq,seval,cz,an,dt (show(20:Int)<(p.soft.length:Int) by omega)];change ow [RS.tmp 2] (.d (.bool false)) .ret _;simp only[vq,seval]
  simp only[vq,seval,cz,an,df (show¬(20:Int)<(p.soft.length:Int) by omega)];by_cases c3:20<p.bZ.length
  ·rw[hf om];simp only[vq,seval,cz,an,dt (show(20:Int)<(p.bZ.length:Int) by omega)];change ow [RS.tmp 2] (.d (.bool false)) .ret _;simp only[vq,seval]
  simp only[vq,seval,cz,an,df (show¬(20:Int)<(p.bZ.length:Int) by omega)];by_cases c4:20<p.br.length
  ·rw[hf om];simp only[vq,seval,cz,an,dt (show(20:Int)<(p.br.length:Int) by omega)];change ow [RS.tmp 2] (.d (.bool false)) .ret _;simp only[vq,seval]
  simp only[vq,seval,cz,an,df (show¬(20:Int)<(p.br.length:Int) by omega)];exact jN _ (bk rfl vt) ⟨rfl,om⟩
 obtain⟨rfl,l1,l2,l3,l4,l5⟩:=hS;obtain⟨Y,hY⟩:∃Y,rB p=Y:=⟨_,rfl⟩;rw[hY];unfold rB at hY;rw[decide_eq_true ⟨l1,l2,l3,l4,l5⟩,Bool.true_and]at hY;simp only[vq,seval,bj];refine bb (fun i:Nat=>⟨cC 92 [(1,.aY 5 0 1 0 0),(3,.d (.int .i64 i))],[.live 5 [p.d.map .d]]⟩) (fun i=>i<=p.cj.length/\p.cj.all (nc 0)=(p.cj.drop i).all (nc 0)) (fun i=>p.cj.length-i) 0 (bk rfl vt) ⟨om,rfl⟩ ?_;rintro i ⟨h1,h2⟩;simp only[vq,seval,bj,an];refine aZ (fun hc=>?_) (fun hc=>?_)
 ·simp only[aj]at hc;obtain⟨x,hx⟩:=bh (l:=p.cj) (i:=i) om;rw[bt hx,List.all_cons]at h2;simp only[vq,seval,bj];refine⟨om,om,bg hx ?_⟩;simp only[vq,seval];simp only[vq,seval,dI];have Cx:=t38 _ x 0 (aq _) (h.ex x (by simp[af hx])) om;refine aW nh Cx ?_;cases hb:nc 0 x with
  |false=>rw[hb,Bool.false_and]at h2;rw[h2,Bool.false_and]at hY;rw[<-hY];simp only[vq,seval]
  |true=>
   rw[hb,Bool.true_and]at h2;simp only[vq,seval];refine bL (i+1) om (bk rfl ?_) ⟨om,h2⟩;simp only[vq,seval,bj];rw[a8 om om]
   try trivial
 ·simp only[ak]at hc;obtain rfl:i=p.cj.length:=om;rw[List.drop_length,List.all_nil]at h2;rw[h2,Bool.true_and]at hY;simp only[vq,seval,bj];refine bb (fun i:Nat=>⟨cC 92 [(1,.aY 5 0 1 0 0),(4,.d (.int .i64 i))],[.live 5 [p.d.map .d]]⟩) (fun i=>i<=p.soft.length/\p.soft.all (nc 0)=(p.soft.drop i).all (nc 0)) (fun i=>p.soft.length-i) 0 (bk rfl vt) ⟨om,rfl⟩ ?_;rintro i ⟨h1,h2⟩;simp only[vq,seval,bj,an];refine aZ (fun hc=>?_) (fun hc=>?_)
  ·simp only[aj]at hc;obtain⟨x,hx⟩:=bh (l:=p.soft) (i:=i) om;rw[bt hx,List.all_cons]at h2;simp only[vq,seval,bj];refine⟨om,om,bg hx ?_⟩;simp only[vq,seval];simp only[vq,seval,dI];have Cx:=t38 _ x 0 (aq _) (h.ex x (by simp[af hx])) om;refine aW nh Cx ?_;cases hb:nc 0 x with
   |false=>rw[hb,Bool.false_and]at h2;rw[h2,Bool.false_and]at hY;rw[<-hY];simp only[vq,seval]
   |true=>
    rw[hb,Bool.true_and]at h2;simp only[vq,seval];refine bL (i+1) om (bk rfl ?_) ⟨om,h2⟩;simp only[vq,seval,bj];rw[a8 om om]
    try trivial
  ·simp only[ak]at hc;obtain rfl:i=p.soft.length:=om;rw[List.drop_length,List.all_nil]at h2;rw[h2,Bool.true_and]at hY;simp only[vq,seval,bj];refine bb (fun i:Nat=>⟨cC 92 [(1,.aY 5 0 1 0 0),(5,.d (.int .i64 i))],[.live 5 [p.d.map .d]]⟩) (fun i=>i<=p.bZ.length/\p.bZ.all (fun x:Ds=>decide (x.ws.length<=20))=(p.bZ.drop i).all (fun x:Ds=>decide (x.ws.length<=20))) (fun i=>p.bZ.length-i) 0 (bk rfl vt) ⟨om,rfl⟩ ?_;rintro i ⟨h1,h2⟩;simp only[vq,seval,bj,an];refine aZ (fun hc=>?_) (fun hc=>?_)
   ·simp only[aj]at hc;obtain⟨x,hx⟩:=bh (l:=p.bZ) (i:=i) om;rw[bt hx,List.all_cons]at h2;simp only[vq,seval,bj];refine⟨om,om,bg hx ?_⟩;simp only[vq,seval];by_cases hb:x.ws.length<=20
    ·rw[decide_eq_true hb,Bool.true_and]at h2;simp only[vq,seval,Ds.d,an,df (show¬(20:Int)<(x.ws.length:Int) by omega)];refine bL (i+1) om (bk rfl ?_) ⟨om,h2⟩;simp only[vq,seval,bj];rw[a8 om om]
     try trivial
    ·rw[decide_eq_false hb,Bool.false_and]at h2;rw[h2,Bool.false_and]at hY;rw[<-hY];simp only[vq,seval,Ds.d,an,dt (show(20:Int)<(x.ws.length:Int) by omega)]
   ·simp only[ak]at hc;obtain rfl:i=p.bZ.length:=om;rw[List.drop_length,List.all_nil]at h2;rw[h2,Bool.true_and]at hY;simp only[vq,seval,bj];refine bb (fun i:Nat=>⟨cC 92 [(1,.aY 5 0 1 0 0),(6,.d (.int .i64 i))],[.live 5 [p.d.map .d]]⟩) (fun i=>i<=p.br.length/\p.br.all (fun g:List Int=>decide (g.length<=20))=(p.br.drop i).all (fun g:List Int=>decide (g.length<=20))) (fun i=>p.br.length-i) 0 (bk rfl vt) ⟨om,rfl⟩ ?_;rintro i ⟨h1,h2⟩;simp only[vq,seval,bj,an];refine aZ (fun hc=>?_) (fun hc=>?_)
    ·simp only[aj]at hc;obtain⟨x,hx⟩:=bh (l:=p.br) (i:=i) om;rw[bt hx,List.all_cons]at h2;simp only[vq,seval,bj];refine⟨om,om,bg hx ?_⟩;simp only[vq,seval];by_cases hb:x.length<=20
     ·rw[decide_eq_true hb,Bool.true_and]at h2;simp only[vq,seval,gD,an,df (show¬(20:Int)<(x.length:Int) by omega)];refine bL (i+1) om (bk rfl ?_) ⟨om,h2⟩;simp only[vq,seval,bj];rw[a8 om om]
      try trivial
     ·rw[decide_eq_false hb,Bool.false_and]at h2;rw[h2]at hY;rw[<-hY];simp only[vq,seval,gD,an,dt (show(20:Int)<(x.length:Int) by omega)]
    ·simp only[ak]at hc;obtain rfl:i=p.br.length:=om;rw[List.drop_length,List.all_nil]at h2;rw[h2]at hY;rw[<-hY];simp only[vq,seval]
theorem t5(p:Pr)(h:Jb p)(b:Int):CallP Tryz.prog 5 [.agg (p.d.map .d),.d (.int .i64 b)] (.d (.bool (rB p&&decide (dE p<=b)))):=by
 have C1:=t14 p h;cases hs:rB p with
 |false=>rw[hs]at C1;rw[bj]at C1|-;refine cc5.go ac5 rfl ?_;simp only[vq,seval,ac5];refine aW nh C1 ?_;simp only[vq,seval,Bool.false_and]
 |true=>have C2:=t15 p (y9 h hs);rw[hs]at C1;rw[bj]at C1 C2|-;refine cc5.go ac5 rfl ?_;simp only[vq,seval,ac5];refine aW nh C1 ?_;simp only[vq,seval];refine aW nh C2 ?_;simp only[vq,seval,Bool.true_and]
theorem t41(s:B):CallP Tryz.prog 41 [.d (.str s)] (.agg ((Ex.mk 2 0 s []).d.map .d)):=by rw[Ex.jB];refine cc41.go ac41 rfl ?_;simp only[vq,seval,ac41,Ex.op,Ex.n,Ex.nm,Ex.args,List.map_nil,List.map_cons]
theorem t40(op:Int)(a b:Ex):CallP Tryz.prog 40 [.d (.int .i64 op),.agg (a.d.map .d),.agg (b.d.map .d)] (.agg ((Ex.mk op 0 [] [a,b]).d.map .d)):=by rw[Ex.jB (.mk op 0 [] [a,b])];refine cc40.go ac40 rfl ?_;simp only[vq,seval,ac40,dI,Ex.op,Ex.n,Ex.nm,Ex.args,List.map_nil,List.map_cons];exact da (es:=[a.d,b.d]) rfl rfl om (fun e he=>by simp at he;rcases he with rfl|rfl<;>exact Ex.cN _) rfl
def nk:Ex:=.mk 17 0 [] [.mk 2 0 [97] [],.mk 2 0 [98] []]
def fW:Pr:=⟨[⟨[97],2,1,0⟩,⟨[98],2,1,0⟩],[nk],[],[],[[0,1]]⟩
theorem t16:CallP Tryz.prog 16 [] (.agg (fW.d.map .d)):=by
 have C3:=t40 17 (.mk 2 0 [97] []) (.mk 2 0 [98] []);rw[bj];refine cc16.go ac16 rfl ?_;simp only[vq,seval,ac16];refine aW rfl (t41 [97]) ?_;simp only[vq,seval];refine aW rfl (t41 [98]) ?_;simp only[vq,seval];refine aW nh C3 ?_;simp only[vq,seval,dI];refine⟨da (es:=fW.vars.map Vr.d) rfl rfl om (fun e he=>by simp[fW]at he;rcases he with rfl|rfl<;>rfl) rfl,da (es:=[nk.d]) rfl rfl om (fun e he=>by simp at he;subst he;exact Ex.cN _) rfl,.bm _,.bm _,?_⟩;refine .cl 1 4 1 0 1 _ _ rfl rfl om rfl (fun x hx=>by simp[fW,gD]at hx;subst hx;rfl) (fun i j e x v y h1 h2 h3 h4=>?_)
 match i,j with
 |0,0=>simp[fW]at h1 h2;subst h1 h2;simp[gD]at h3 h4;subst h3 h4;exact da (es:=[0,1].map iD) rfl rfl om Ge rfl
 |0,j+1=>simp[fW]at h1;subst h1;simp at h3
 |i+1,_=>simp at h1
abbrev BH:BE:=⟨fW,jc fW⟩
abbrev yS:NB:=⟨4,by decide⟩
theorem lM:g8 fW where
 vars:=⟨by rw[dx];decide,fun x hx=>by rw[dx];simp[fW]at hx;rcases hx with rfl|rfl<;>simp⟩
 cj:=fun e he=>by simp[fW]at he;subst he;refine⟨by simp[nk,Ex.nodes,Ex.bX],fun x hx=>?_⟩;simp[nk,Ex.nodes,Ex.bX]at hx;rcases hx with rfl|rfl|rfl<;>exact⟨by rw[dx];simp[Ex.args],by rw[dx];simp[Ex.nm]⟩
 soft:=fun e he=>by simp[fW]at he
 lens:=by simp[fW]
 bZ:=fun x hx=>by simp[fW]at hx
 br:=fun g hg=>by simp[fW]at hg;subst hg;simp
theorem pZ:cE fW=0:=by kernel_rfl
theorem Dq:dE fW=4:=by kernel_rfl
theorem Jc:gE fW (db fW)=true:=by kernel_rfl
theorem v7:ik fW=[nk]:=by kernel_rfl
theorem Of:(sX fW [nk] 100).1=some [0,1]:=by kernel_rfl
theorem MV:(@vP BH [nk] 1 qA).isSome=true:=by kernel_rfl
theorem OR: @qR BH yS=6:=by kernel_rfl
theorem OB:(@vP BH [nk] 1 qA).map (fun r=> @fv (@dB yS r.2) r.1*2^ @jU yS r.2 r.1)=some 6:=by kernel_rfl
theorem MR{r:Nat×Gr}(h: @vP BH [nk] 1 qA=some r): @fv (@dB yS r.2) r.1*2^ @jU yS r.2 r.1=6:=by have h2:=OB;rw[h,Option.map_some]at h2;exact Option.some.inj h2
set_option maxRecDepth 100000 in
theorem t6:CallP Tryz.prog 6 [] (.d (.bool true)):=by
 have hmL:=dx
 letI:=BH
 letI:=yS
 have hv:cE BE.p=0:=pZ;have hb:(NB.nb:Int)=dE BE.p:=by rw[show dE BE.p=4 from Dq];rfl
 have C0:=t16;have C1:=t7 fW lM pZ (by rw[Dq];omega);rw[if_pos Jc,v7]at C1;have C2:=t9 (l:=[nk]) lM pZ rfl hb sm (fun e he=>by rw[<-v7]at he;exact kA lM pZ e he);have H:=mW hv rfl hb;obtain⟨r,hr⟩:=Option.isSome_iff_exists.1 MV;obtain⟨G,hf,_⟩:= @rD BH yS H [nk] (fun e he=>po (by rw[<-v7]at he;exact kA lM pZ e he)) r hr;have C3:=t10 G hf;have hc:=MR hr;have C4:=t8 lM pZ rfl hb (by rw[show dE BE.p=4 from Dq];omega) (by have h:=congrArg List.length v7;exact Nat.le_trans (Nat.le_of_eq h) sm);rw[if_pos (show gE BE.p (db BE.p)=true from Jc),OR]at C4;have C5:=t17 fW lM pZ [nk] (fun e he=>by rw[<-v7]at he;exact kA lM pZ e he) sm 100 om;have h5:DB (sX fW [nk] 100)=.cm [.d (.sl 1 ([0,1].map iD)),.d (.int .i64 0)]:=by
  cases h:sX fW [nk] 100 with
  |mk a b=>have:=Of;rw[h]at this;simp only at this;subst this;rfl
 have C6:=t18 G;rw[hr]at C2;rw[hc]at C3;rw[h5]at C5;have D2:CallP Tryz.prog 9 [.agg (fW.d.map .d),.d (.sl 4 ([nk].map Ex.d))] (cQ (some r)):=C2;have D3:CallP Tryz.prog 10 [.agg [.d (dg r.2)],.d (.int .i64 r.1),.d (.int .i64 4)] (.cm [.d (.int .i64 6),.d (.int .i64 0)]):=C3;have D4:CallP Tryz.prog 8 [.agg (fW.d.map .d)] (.cm [.d (.int .i64 6),.d (.int .i64 0)]):=C4;have hP:(fW.d.map V.d).length=5/\(fW.d.map V.d).take 5=fW.d.map V.d/\∀x∈fW.d.map V.d,lY x=true:=⟨rfl,rfl,fun x hx=>by obtain⟨y,_,rfl⟩:=aw.1 hx;rfl⟩;clear C2 C3 C4 hc h5 hr G hf H hv hb;generalize fW.d.map V.d=P at*;generalize [nk].map Ex.d=L at*;obtain⟨p1,p2,p3⟩:=hP;simp only[cQ,dg]at D2 D3 C6;refine cc6.go ac6 rfl ?_;simp only[vq,seval,ac6];refine aW rfl C0 ?_;simp only[vq,seval,p1,p2];refine aW (by simpa[kv,gn]using p3) C1 ?_;simp only[vq,seval];refine aW rfl C0 ?_;simp only[vq,seval];refine aW (by simpa[kv,gn]using p3) D2 ?_;simp only[vq,seval];refine aW nh D3 ?_;simp only[vq,seval];refine aW rfl C0 ?_;simp only[vq,seval];refine aW (by simpa[kv,gn]using p3) D4 ?_;simp only[vq,seval];refine aW rfl C0 ?_;simp only[vq,seval];refine aW (by simpa[kv,gn]using p3) C5 ?_;simp only[vq,seval,iD,List.map_cons,List.map_nil];refine aW nh C6 ?_;simp only[vq,seval]
theorem qK{p:Pr}(ok:g8 p):(ik p).length<=4294967296:=by have h1:=(uS p).1;obtain⟨l1,l2,l3,_⟩:=ok.lens;simp only[ik,db,dm,az,an];omega
theorem uR{p:Pr}:0<=dE p:=by
 unfold dE;split
 ·rename_i h;exact(mJ h).2
 ·omega
abbrev MK(p:Pr):BE:=⟨p,jc p⟩
abbrev gR(p:Pr)(h:dE p<=20):NB:=⟨(dE p).toNat,om⟩
set_option maxRecDepth 100000 in
theorem t3(p:Pr)(h:Jb p):CallP Tryz.prog 3 [.agg (p.d.map .d)] (.d (.bool true)):=by
 have hmL:=dx;have C5:=t5 p h 10;have C6:=t6;cases hs:rB p&&decide (dE p<=10)with
 |false=>rw[hs]at C5;rw[bj]at C5|-;refine cc3.go ac3 rfl ?_;simp only[vq,seval,ac3];refine aW nh C5 ?_;simp only[vq,seval];refine aW rfl C6 ?_;simp only[vq,seval]
 |true=>
  rw[hs]at C5;simp only[av,aj]at hs;obtain⟨h1,h10⟩:=hs;have ok:=y9 h h1;by_cases hv:cE p=0
  ·letI:=MK p
   letI:=gR p om
   have hb:(NB.nb:Int)=dE BE.p:=Int.toNat_of_nonneg uR;have C7:=t7 p ok hv om;have C8:CallP Tryz.prog 8 [.agg (p.d.map .d)] (if gE p (db p)=true then .cm [.d (.int .i64 qR),.d (.int .i64 0)]else .cm [.d (.int .i64 0),.d (.int .i64 11)]):=t8 (show g8 BE.p from ok) hv rfl hb (show dE p<=18 by omega) (qK ok);by_cases hso:gE p (db p)=true
   ·rw[if_pos hso]at C7 C8;have C9:CallP Tryz.prog 9 [.agg (p.d.map .d),.d (.sl 4 ((ik p).map Ex.d))] (cQ Bo):=t9 (show g8 BE.p from ok) hv rfl hb (ik p) (qK ok) (kA ok hv);have C11:=t11 p ok;have H:=mW (show cE BE.p=0 from hv) rfl hb;have hA:=fun r hr=>rD H (l:=ik p) (fun e he=>po (show qe BE.p.vars e from kA ok hv e he)) (r:=r) hr;have hC:qR=match vP (ik p) 1 qA with|some (t,N)=>fv (dB N) t*2^jU N t|none=>(nj (ql p none) 0 []:Int):=rfl
    rw[hC]at C8;have C9:CallP Tryz.prog 9 [.agg (p.d.map .d),.d (.sl 4 ((ik p).map Ex.d))] (cQ (vP (ik p) 1 qA)):=C9;clear hC;rw[bj]at C5 C7 C8 C9 C11|-;refine cc3.go ac3 rfl ?_;simp only[vq,seval,ac3];refine aW nh C5 ?_;simp only[vq,seval];refine aW nh C7 ?_;simp only[vq,seval];refine aW nh C8 ?_;simp only[vq,seval];refine aW nh C9 ?_;cases hr:vP (ik p) 1 qA with
    |none=>simp only[vq,seval,cQ];refine aW rfl C6 ?_;simp only[vq,seval]
    |some r=>
     obtain⟨G,hf,_⟩:=hA r hr;have C10:=t10 G hf;rw[hb]at C10;simp only[vq,seval,cQ];refine bW ?_;simp only[vq,seval]
     repeat(refine cc rfl rfl ?_;simp only[vq,seval])
     refine aW nh C11 ?_
     repeat(refine cc rfl rfl ?_;simp only[vq,seval])
     refine aW nh C10 ?_
     repeat(refine cc rfl rfl ?_;simp only[vq,seval])
     refine aW rfl C6 ?_;simp only[vq,seval]
   ·rw[if_neg hso]at C7 C8;rw[bj]at C5 C7 C8|-;refine cc3.go ac3 rfl ?_;simp only[vq,seval,ac3];refine aW nh C5 ?_;simp only[vq,seval];refine aW nh C7 ?_;simp only[vq,seval];refine aW nh C8 ?_;simp only[vq,seval];refine aW rfl C6 ?_;simp only[vq,seval]
  ·have C7:=Ji p ok hv;have C8:=QU p ok hv;rw[bj]at C5 C7 C8|-;refine cc3.go ac3 rfl ?_;simp only[vq,seval,ac3];refine aW nh C5 ?_;simp only[vq,seval];refine aW nh C7 ?_;simp only[vq,seval];refine aW nh C8 ?_;simp only[vq,seval];refine aW rfl C6 ?_;simp only[vq,seval]
section
variable[BE][NB]
theorem EA(ok:g8 BE.p)(hv:cE BE.p=0)(hl:BE.lv=jc BE.p)(hb:(NB.nb:Int)=dE BE.p)(hs:wK BE.p.vars (ik BE.p)=true):1<=qR:=by
 have H:=mW hv hl hb;have hw:∀e∈ik BE.p,okW e:=fun e he=>po (kA ok hv e he);unfold qR;cases hr:(Bo:Option (Nat×Gr))with
 |none=>
  obtain⟨a,ha,hh⟩:=List.any_eq_true.1 hs;have h1:0<nj (ql BE.p none) 0 []:=by unfold nj;exact List.length_pos_of_mem (List.mem_filter.2 ⟨by simpa[ql]using ha,by simpa[ql]using hh⟩)
  simp only;omega
 |some r=>obtain⟨G,hf,_⟩:=rD H hw hr;exact FZ G hf (IC hv hl H hw hs hr)
end
theorem Pd{α:Type}{f:α->Int}:∀{l:List α},(∀x∈l,f x=0)->fE f l=0
 |[],_=>rfl
 |x::l,h=>by have h1:=h x sm;have h2:=Pd (f:=f) (l:=l) fun y hy=>h y (by simp[hy]);rw[fE,if_pos h1,h2]
def iO(p:Pr)(hs:List Ex):Pr:=⟨p.vars,hs,[],p.bZ,p.br⟩
theorem Ix{p:Pr}(hv:cE p=0){hs:List Ex}(h:∀e∈hs,e∈p.cj):cE (iO p hs)=0:=by obtain⟨h1,h2,h3,h4,h5⟩:=js hv;have h6:fE (lg p.vars) hs=0:=Pd fun e he=>nv h2 e (h e he);unfold cE iO;simp only[h1,h4,h5,h6];rfl
theorem uH{p:Pr}(ok:g8 p){hs:List Ex}(h:∀e∈hs,e∈p.cj)(hl:hs.length<=65536):g8 (iO p hs):=⟨ok.vars,fun e he=>ok.cj e (h e he),fun e he=>(by cases he),⟨hl,by simp[iO],ok.lens.2.2.1,ok.lens.2.2.2⟩,ok.bZ,ok.br⟩
theorem He(p:Pr)(hs:List Ex):ik (iO p hs)=hs++dm p:=by unfold ik sj;have:(iO p hs).soft.length=0:=rfl;rw[this,sy];simp[db,dm,iO];exact fun _ _=>rfl
theorem Dh(p:Pr)(hs:List Ex):db (iO p hs)=hs++dm p:=rfl
theorem KN{α:Type}{l:List α}{i j:Nat}{x:α}(hx:l[i]? =some x)(hj:j<l.length):(l.take (i+1)).eraseIdx j=(l.take i).eraseIdx j++(if i=j then[]else[x]):=by
 have hil:=(ad.1 hx).1;have hl:(l.take i).length=i:=by simp;omega
 rw[bQ hx];by_cases h:i=j
 ·subst h;rw[if_pos rfl,List.append_nil,List.eraseIdx_append_of_length_le om,hl,Nat.sub_self,List.eraseIdx_cons_zero,List.append_nil,List.eraseIdx_of_length_le om]
 ·rw[if_neg h];by_cases h2:j<i
  ·rw[List.eraseIdx_append_of_lt_length om]
  ·rw[List.eraseIdx_of_length_le so,List.eraseIdx_of_length_le om]
theorem vu(p:Pr):∀(k:Nat) (s:List Int),(xW p k s).length<=s.length
 |0,s=>by rw[xW];exact aq _
 |k+1,s=>by
  rw[xW];split
  ·exact Nat.le_trans (vu p k _) (List.length_eraseIdx_le _ _)
  ·exact vu p k s
set_option maxRecDepth 100000 in
theorem t4(p:Pr)(h:Jb p)(k:Nat)(hk:k<=255):CallP Tryz.prog 4 [.agg (p.d.map .d),.d (.int .u8 k)] (.d (.bool true)):=by
 have hmL:=dx;have C5:=t5 p h 8;have C6:=t6;cases hs:rB p&&decide (dE p<=8)with
 |false=>rw[hs]at C5;rw[bj]at C5|-;refine cc4.go ac4 rfl ?_;simp only[vq,seval,ac4];refine aW nh C5 ?_;simp only[vq,seval];refine aW rfl C6 ?_;simp only[vq,seval]
 |true=>
  rw[hs]at C5;simp only[av,aj]at hs;obtain⟨h1,h8⟩:=hs;have ok:=y9 h h1;have C12:=t12 p ok;by_cases hv:cE p=0
  ·rw[hv]at C12
   letI:=MK p
   letI:=gR p om
   have hb:(NB.nb:Int)=dE BE.p:=Int.toNat_of_nonneg uR;have C13:=t13 p ok hv om;have C8:CallP Tryz.prog 8 [.agg (p.d.map .d)] (if gE p (db p)=true then .cm [.d (.int .i64 qR),.d (.int .i64 0)]else .cm [.d (.int .i64 0),.d (.int .i64 11)]):=t8 (show g8 BE.p from ok) hv rfl hb (show dE p<=18 by omega) (qK ok);generalize qR=cn at C8;rw[Gt p]at C13;by_cases hso:gE p (db p)=true
   ·rw[if_pos hso]at C8;rw[hso,if_neg sm]at C13;rw[bj]at C5 C8 C12 C13|-;refine cc4.go ac4 rfl ?_;simp only[vq,seval,ac4];refine aW nh C5 ?_;simp only[vq,seval];refine aW nh C12 ?_;simp only[vq,seval];refine aW nh C13 ?_;simp only[vq,seval];refine aW nh C8 ?_;simp only[vq,seval];refine aW rfl C6 ?_;simp only[vq,seval]
   ·rw[if_neg hso]at C8;rw[if_pos (by simpa using hso)]at C13;obtain⟨hin,hmin⟩:=KE p;have ma:(yl p).length<=65536:=by have e1:=vu p (gL p).length (gL p);have e2:=(yc p).1;have e3:=ok.lens.1;unfold yl;omega
    generalize hc:yl p=c at*;rw[bj]at C5 C8 C12 C13|-;refine cc4.go (AC.at AC.wk [1,1,1,1,1,1,1,1,1,1,0] (AC.at AC.wk [1,1,1,1,1,1,1,1,1,0,0] ac4)) rfl ?_;simp only[vq,seval,ac4,AC.at];refine aW nh C5 ?_;simp only[vq,seval];refine aW nh C12 ?_;simp only[vq,seval];refine aW nh C13 ?_;simp only[vq,seval];refine aW nh C8 ?_;simp only[vq,seval];by_cases hz:c.length=0
    ·simp only[vq,seval,an,dt (show(c.length:Int)=0 by omega)];refine aW rfl C6 ?_;simp only[vq,seval]
    simp only[vq,seval,an,df (show¬(c.length:Int)=0 by omega)];obtain⟨j,hj⟩:∃j,k%c.length=j:=⟨_,rfl⟩;have hjl:j<c.length:=by rw[<-hj];exact Nat.mod_lt _ om
    have hrem:Int.tmod (k:Int) (c.length:Int)=(j:Int):=by rw[Int.tmod_eq_emod_of_nonneg om,show((k:Int)%(c.length:Int))=((k%c.length:Nat):Int)from rfl,hj]
    have hk8:IntKind.i64.wrap (k:Int)=k:=a8 om om;refine fu _ (nW 1 5 4 1 _ rfl rfl) ?_;simp only[vq,seval];refine bb (fun t:Nat×List Ex=>⟨cC 111 [(1,.d (.int .u8 k)),(2,.aY 5 0 1 0 0),(5,.d (.sl 1 (c.map iD))),(9,.aY 5 1 1 0 0),(10,.d (.int .i64 t.1))],[.live 5 [p.d.map .d],.live 5 [[.d (cz p.vars),.cl 4 2 t.2.length 0 t.2.length,.d .bm,.d (.sl 2 (p.bZ.map Ds.d)),.d (.sl 1 (p.br.map gD))]],.live 4 ((t.2.map Ex.d).map (·.map .d))]⟩) (fun t=>t.1<=c.length/\t.2=((c.take t.1).eraseIdx j).map (jl p)) (fun t=>c.length-t.1) (0,[]) (bk rfl vt) ⟨om,sm⟩ ?_;rintro⟨i,hs⟩ ⟨g1,g2⟩;dsimp only at g1 g2;have hsl:hs.length<=i:=by rw[g2,an];exact Nat.le_trans (List.length_eraseIdx_le _ _) so
    simp only[vq,seval,bj,an];refine aZ (fun hd=>?_) (fun hd=>?_)
    ·simp only[aj]at hd;obtain⟨x,hx⟩:=bh (l:=c) (i:=i) om;obtain⟨x0,x1⟩:=hin x (af hx);have q0:((0:Int)<=(i:Nat))=True:=eq_true om;have q1:(((i:Nat):Int)<(c.length:Nat))=True:=eq_true om;have gx:(c.map iD)[i]? =some (iD x):=by rw[ar,hx];rfl
     have d1:decide (x<0)=false:=decide_eq_false om;have d2:decide ((p.cj.length:Int)<=x)=false:=decide_eq_false om;simp only[vq,seval,bj];refine bW ?_;simp only[vq,seval,bj,q0,q1,gP gx,iD,d1,d2,an]
     repeat(refine cc rfl rfl ?_;simp only[vq,seval,bj,q0,q1,gP gx,iD,d1,d2,an])
     simp only[vq,seval,hk8,an];refine⟨om,?_⟩;rw[hrem];have hE:=KN hx hjl;by_cases hij:i=j
     ·simp only[vq,seval,ah,bS,dt (show(i:Int)=(j:Int) by omega)];rw[if_pos hij,List.append_nil]at hE;refine bL (i+1,hs) (by simp only;omega) (bk rfl ?_) ⟨by simp only;omega,by simp only;rw[hE];exact g2⟩;simp only[vq,seval];rw[a8 om om]
      try trivial
     ·simp only[vq,seval,ah,bS,df (show¬(i:Int)=(j:Int) by omega)];rw[if_neg hij]at hE;have hh:=qL x0 x1;obtain⟨y,hy⟩:=Int.eq_ofNat_of_zero_le x0;subst hy;rw[Int.toNat_natCast]at hh;have gy:(p.cj.map Ex.d)[y]? =some (jl p y).d:=by rw[ar,hh];rfl
      have q2:((0:Int)<=(y:Nat))=True:=eq_true om;have q3:(((y:Nat):Int)<(p.cj.length:Nat))=True:=eq_true om;refine bW ?_;simp only[vq,seval,bj,q0,q1,q2,q3,gP gx,gP gy,iD,dI,an]
      repeat(refine cc rfl rfl ?_;simp only[vq,seval,bj,q0,q1,q2,q3,gP gx,gP gy,iD,dI,an])
      refine⟨by simp only[bM];omega,?_⟩
      repeat(refine cc rfl rfl ?_;simp only[vq,seval,bj,dI])
      have hap:(hs.map Ex.d).map (·.map V.d)++[(jl p y).d.map V.d]=((hs++[jl p y]).map Ex.d).map (·.map V.d):=by simp
      rw[hap];refine bL (i+1,hs++[jl p y]) (by simp only;omega) (bz 3 om (by simp[bj,cz]) rfl ⟨eE (e:=p.d),?_,nY (l:=(hs++[jl p y]).map Ex.d),trivial⟩ ?_) ⟨by simp only;omega,by simp only;rw[hE,g2,List.map_append];rfl⟩
      ·intro u hu z hz';simp only[List.mem_singleton]at hu;subst hu;simp only[aP,List.not_mem_nil,or_false]at hz';rcases hz' with rfl|rfl|rfl|rfl|rfl<;>rfl
      ·simp only[vq,seval];rw[a8 om om]
       try trivial
    ·simp only[ak]at hd;obtain rfl:i=c.length:=om;rw[List.take_length]at g2;have hsub:∀e∈hs,e∈p.cj:=fun e he=>by rw[g2]at he;obtain⟨y,hy,rfl⟩:=aw.1 he;obtain⟨y0,y1⟩:=hin y (List.mem_of_mem_eraseIdx hy);exact af (qL y0 y1)
     have qv:=Ix hv hsub;have qo:=uH ok hsub om;have qb:dE (iO p hs)=dE p:=by rw[(mJ qv).1,(mJ hv).1];rfl
     have qs:gE (iO p hs) (db (iO p hs))=true:=by have:=hmin j hjl;rw[Dh,g2];exact this
     simp only[vq,seval];refine fu _ (mT (rows':=[.live 5 [p.d.map .d],.live 5 [(iO p hs).d.map .d]]) 2 om ⟨.same _ (eE (e:=p.d)),sh (oA (.cons _ _ _ _ (.snap _ _ (da (n:=hs.length) (es:=hs.map Ex.d) rfl sm om (fun e he=>by obtain⟨x,_,rfl⟩:=aw.1 he;exact x.cN) (by rw[List.drop_zero,al sm];rfl))) rfl (.cons _ _ _ _ (.snap _ _ (.bm 4)) rfl (oA (oA .nil))))),trivial⟩ (mb rfl)) ?_;have D8:CallP Tryz.prog 8 [.agg ((iO p hs).d.map .d)] (if gE (iO p hs) (db (iO p hs))=true then .cm [.d (.int .i64 (@qR (MK (iO p hs)) (gR (iO p hs) om))),.d (.int .i64 0)]else .cm [.d (.int .i64 0),.d (.int .i64 11)]):= @t8 (MK (iO p hs)) (gR (iO p hs) om) qo qv rfl (Int.toNat_of_nonneg uR) (show dE (iO p hs)<=18 by omega) (qK qo);have hpos:= @EA (MK (iO p hs)) (gR (iO p hs) om) qo qv rfl (Int.toNat_of_nonneg uR) (show wK (iO p hs).vars (ik (iO p hs))=true from by rw[He];exact qs);rw[if_pos qs]at D8;generalize @qR (MK (iO p hs)) (gR (iO p hs) om)=cq at D8 hpos;rw[bj]at D8;simp only[vq,seval,bj];refine aW nh D8 ?_;simp only[vq,seval,dt (show 0<cq by omega)];refine aW rfl C6 ?_;simp only[vq,seval]
  ·rw[bj]at C5 C12|-;refine cc4.go ac4 rfl ?_;simp only[vq,seval,ac4];refine aW nh C5 ?_;simp only[vq,seval];refine aW nh C12 ?_;simp only[vq,seval,ah,bS,df hv];refine aW rfl C6 ?_;simp only[vq,seval]
end Go.Proofs.Tp
