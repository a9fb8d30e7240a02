/- Proved: contracts of functions that the laws of Top reach, and plain facts for them. Conditions: those that each lemma states. -/
import Derived.Test.YtmhkppbollghoaaGreatDoorE8
set_option linter.unusedSectionVars false
set_option linter.unusedSimpArgs false
set_option linter.unusedVariables false
namespace Go.Proofs.Tp
open Go.Vx
theorem t121(r0:bd)(e:Ex)(he:nA e):dn Tryz.prog 121 [.agg (e.d.map .d)] [r0] (fun v R'=>v=.aY 5 2 1 0 0/\∃r1 vs ws T,R'=vE r0 r1 (e.nodes.length:Nat) (e.dep:Nat) (e.nodes.foldl jZ 0) vs ws T):=by refine cc121.gi (AC.at AC.wk [1,1,0] (AC.at (AC.look [false,false,true]) [1,1,0] ac121)) rfl ?_;simp only[vq,seval,ac121,AC.at,AC.look,dI];refine fu _ ((nW 2 5 1 3 _ rfl rfl).trans (nW 2 5 1 4 _ rfl rfl)) ?_;simp only[vq,seval,dI];have hd:=yO _ e (aq _);have hn:=he.1;refine dh (b6 (t174 r0 (.live 4 [e.d.map .d]) _ e (aq _) he 0 0 1 0 [] [] [] om sm sm om) ?_);rintro _ _ ⟨vs',ws',T',g1,g2,rfl⟩;simp only[vq,seval];refine⟨.live 4 [e.d.map .d],vs',ws',T',?_⟩;rw[Ex.jL,show max 0 (1+Ex.gS e.args)=Ex.gS e.args+1 by omega]
theorem xT{f:Int}(hf:f≠0)(l:List Ex):l.foldl jZ f=f:=by
 induction l with
 |nil=>rfl
 |cons x l ih=>rw[List.foldl_cons,jZ,if_neg hf,ih]
theorem fst_eq(l:List Ex)(s:Int):s=0->(gU (fun(_:Int) x=>(decide (ei x=0),ei x)) l s).2=l.foldl jZ 0:=by
 induction l generalizing s with
 |nil=>exact fun h=>h
 |cons x l ih=>
  intro _;rw[gU,List.foldl_cons,jZ,if_pos rfl];by_cases h:ei x=0
  ·simp only[h,decide_true,if_true];exact ih 0 rfl
  ·simp only[h,decide_false,Bool.false_eq_true,if_false];rw[xT h]
theorem t67(e:Ex)(he:nA e):CallP Tryz.prog 67 [.agg (e.d.map .d)] (.d (.int .i64 (lE e))):=by
 refine cc67.go (AC.at (AC.look [false,true]) [1,0] ac67) rfl ?_;simp only[vq,seval,ac67,AC.at,AC.look,dI];refine dh (b6 (t121 _ e he) ?_);rintro _ R' ⟨rfl,r1,vs,ws,T,rfl⟩;rw[<-fst_eq e.nodes 0 rfl,show(gU (fun(_:Int) x=>(decide (ei x=0),ei x)) e.nodes 0).2=vw e from rfl];simp only[vq,seval];unfold lE;by_cases h:vw e=0
 ·simp only[vq,seval,dt h];by_cases h2:(24:Int)<e.dep
  ·rw[if_pos ⟨h,om⟩];simp only[vq,seval,dt h2]
  ·simp only[vq,seval,df h2];by_cases h3:(400:Int)<e.nodes.length
   ·rw[if_pos ⟨h,om⟩];simp only[vq,seval,dt h3]
   ·rw[if_neg om];simp only[vq,seval,df h3]
 ·rw[if_neg (fun x=>h x.1)];simp only[vq,seval,df h]
structure Wt where
 lo:Int
 hi:Int
 wt:Int
 each:Bool
def Wt.d(w:Wt):List D:=[.int .i64 w.lo,.int .i64 w.hi,.int .i64 w.wt,.bool w.each]
structure Ds where
 v:Int
 ws:List Wt
def Ds.d(x:Ds):List D:=[.int .i64 x.v,.sl 4 (x.ws.map Wt.d)]
structure Pr where
 vars:List Vr
 cj:List Ex
 soft:List Ex
 bZ:List Ds
 br:List (List Int)
def gD(g:List Int):List D:=[.sl 1 (g.map iD)]
def Pr.d(p:Pr):List D:=[cz p.vars,.sl 4 (p.cj.map Ex.d),.sl 4 (p.soft.map Ex.d),.sl 2 (p.bZ.map Ds.d),.sl 1 (p.br.map gD)]
theorem Pr.cN(p:Pr):p.d.length=5:=rfl
structure g8(p:Pr):Prop where
 vars:Pw p.vars
 cj:∀e∈p.cj,nA e
 soft:∀e∈p.soft,nA e
 lens:p.cj.length<=65536/\p.soft.length<=65536/\p.bZ.length<=65536/\p.br.length<=65536
 bZ:∀x∈p.bZ,x.ws.length<=maxLen
 br:∀g∈p.br,g.length<=65536
def gj(l:List Vr)(i:Int):Bool:=decide (0<=i)&&match l[i.toNat]? with|some x=> !decide (x.m=0)|none=>false
theorem t63(p:Pr)(ok:g8 p)(i:Int):CallP Tryz.prog 63 [.agg (p.d.map .d),.d (.int .i64 i)] (.d (.bool (gj p.vars i))):=by
 have hm:=hm;have hl:=ok.vars.1;refine cc63.go ac63 rfl ?_;simp only[vq,seval,ac63,Pr.d,cz,List.map_cons,List.map_nil];unfold gj;by_cases h:0<=i
 ·simp only[vq,seval,ah,bS,dt h];by_cases h2:i<p.vars.length
  ·obtain⟨x,hx⟩:=bh (l:=p.vars) (i:=i.toNat) om;simp only[vq,seval,ah,bS,dt h2,hx];refine⟨om,om,bg hx ?_⟩;simp only[vq,seval,ah,bS,Vr.d,List.map_cons,List.map_nil]
  ·have:p.vars[i.toNat]? =none:=aA om;simp only[vq,seval,ah,bS,df h2,this]
 ·simp only[vq,seval,ah,bS,df h]
theorem mU{m:Nat}{e:Ex}(hle:e.nodes.length<=m+1)(he:nA e):∀x∈e.args,x.nodes.length<=m/\nA x:=fun x hx=>by have:=eU hx;have hn:=he.1;rw[Ex.bT,List.length_cons]at hle hn;exact⟨om,om,fun y hy=>he.2 y (by rw[Ex.bT];exact List.mem_cons_of_mem _ (eV hx hy))⟩
def fN(x:Ex):Bool:=decide (x.op=3)||decide (x.op=24)
theorem t122:∀(m:Nat) (e:Ex),e.nodes.length<=m->nA e->CallP Tryz.prog 122 [.agg (e.d.map .d)] (.d (.bool (e.nodes.any fN)))
 |0,e,h,_=>by have:=cZ e;omega
 |m+1,e,hle,he=>by
  have hn:=he.1;have hm:=hm;have hA:=(he.2 e (by rw[Ex.bT];simp)).1;have hsub:∀x∈e.args,x.nodes.length<=m/\nA x:=mU hle he;rw[e.jB];refine cc122.go ac122 rfl ?_;simp only[vq,seval,ac122,List.map_cons,List.map_nil];rw[Ex.bT,List.any_cons,fN];by_cases h3:e.op=3
  ·simp only[vq,seval,ah,bS,dt h3]
  ·simp only[vq,seval,ah,bS,df h3];by_cases h4:e.op=24
   ·simp only[vq,seval,ah,bS,dt h4]
   ·simp only[vq,seval,ah,bS,df h4];refine bb (fun i:Nat=>⟨cC 25 [(1,.aY 4 0 1 0 0),(3,.d (.int .i64 i))],[.live 4 [[.d (.int .i64 e.op),.d (.int .i64 e.n),.d (.str e.nm),.d (.sl 4 (e.args.map Ex.d))]]]⟩) (fun i=>i<=e.args.length/\(Ex.bX e.args).any fN=(Ex.bX (e.args.drop i)).any fN) (fun i=>e.args.length-i) 0 (a9 vt) ⟨om,by rw[List.drop_zero]⟩ ?_;rintro i ⟨h1,h2⟩;simp only[vq,seval];refine aZ (fun hc=>?_) (fun hc=>?_)
    ·simp only[aj]at hc;obtain⟨x,hx⟩:=bh (l:=e.args) (i:=i) om;have hmem:=af hx;rw[bt hx,Ex.bX,List.any_append]at h2;simp only[vq,seval];refine⟨om,om,bg hx ?_⟩;simp only[vq,seval];simp only[vq,seval,dI];refine aW (p9 _) (t122 m x (hsub x hmem).1 (hsub x hmem).2) ?_;simp only[vq,seval];cases hv:x.nodes.any fN with
     |true=>rw[h2,hv];simp only[vq,seval,ah,bS]
     |false=>rw[hv,Bool.false_or]at h2;simp only[vq,seval,ah,bS];refine bL (i+1) om (a9 ?_) ⟨om,h2⟩;simp only[vq,seval];rw[a8 om om];trivial
    ·simp only[ak]at hc;rw[b4 om,Ex.bX]at h2;rw[h2,List.any_nil];simp only[vq,seval,ah,bS]
def gf(l:List Vr)(x:Ex):Bool:=decide (x.op=2)&&decide (kr l x.nm<0)
theorem Pp(d:D)(l:List D):([V.d d,V.agg (l.map .d)]:List V).all kv=true:=by simp[kv,lY,gn]
theorem t123(l:List Vr)(hll:l.length<=maxLen):∀(m:Nat) (e:Ex),e.nodes.length<=m->nA e->CallP Tryz.prog 123 [.d (cz l),.agg (e.d.map .d)] (.d (.bool (e.nodes.any (gf l))))
 |0,e,h,_=>by have:=cZ e;omega
 |m+1,e,hle,he=>by
  have hn:=he.1;have hm:=hm;have hA:=(he.2 e (by rw[Ex.bT];simp)).1;have hsub:∀x∈e.args,x.nodes.length<=m/\nA x:=mU hle he;rw[e.jB];refine cc123.go ac123 rfl ?_;simp only[vq,seval,ac123,List.map_cons,List.map_nil];rw[Ex.bT,List.any_cons,gf];by_cases h3:e.op=2
  ·simp only[vq,seval,ah,bS,dt h3];refine aW rfl (t65 l e.nm hll) ?_;simp only[vq,seval];by_cases h4:kr l e.nm<0
   ·simp only[vq,seval,ah,bS,dt h4]
   ·simp only[vq,seval,ah,bS,df h4];refine bb (fun i:Nat=>⟨cC 30 [(0,.d (cz l)),(3,.aY 4 0 1 0 0),(5,.d (.int .i64 i))],[.live 4 [[.d (.int .i64 e.op),.d (.int .i64 e.n),.d (.str e.nm),.d (.sl 4 (e.args.map Ex.d))]]]⟩) (fun i=>i<=e.args.length/\(Ex.bX e.args).any (gf l)=(Ex.bX (e.args.drop i)).any (gf l)) (fun i=>e.args.length-i) 0 (a9 vt) ⟨om,by rw[List.drop_zero]⟩ ?_;rintro i ⟨h1,h2⟩;simp only[vq,seval];refine aZ (fun hc=>?_) (fun hc=>?_)
    ·simp only[aj]at hc;obtain⟨x,hx⟩:=bh (l:=e.args) (i:=i) om;have hmem:=af hx;rw[bt hx,Ex.bX,List.any_append]at h2;simp only[vq,seval];refine⟨om,om,bg hx ?_⟩;simp only[vq,seval];simp only[vq,seval,dI];refine aW (Pp _ _) (t123 l hll m x (hsub x hmem).1 (hsub x hmem).2) ?_;simp only[vq,seval];cases hv:x.nodes.any (gf l)with
     |true=>rw[h2,hv];simp only[vq,seval,ah,bS]
     |false=>rw[hv,Bool.false_or]at h2;simp only[vq,seval,ah,bS];refine bL (i+1) om (a9 ?_) ⟨om,h2⟩;simp only[vq,seval];rw[a8 om om];trivial
    ·simp only[ak]at hc;rw[b4 om,Ex.bX]at h2;rw[h2,List.any_nil];simp only[vq,seval,ah,bS]
  ·simp only[vq,seval,ah,bS,df h3];refine bb (fun i:Nat=>⟨cC 30 [(0,.d (cz l)),(3,.aY 4 0 1 0 0),(5,.d (.int .i64 i))],[.live 4 [[.d (.int .i64 e.op),.d (.int .i64 e.n),.d (.str e.nm),.d (.sl 4 (e.args.map Ex.d))]]]⟩) (fun i=>i<=e.args.length/\(Ex.bX e.args).any (gf l)=(Ex.bX (e.args.drop i)).any (gf l)) (fun i=>e.args.length-i) 0 (a9 vt) ⟨om,by rw[List.drop_zero]⟩ ?_;rintro i ⟨h1,h2⟩;simp only[vq,seval];refine aZ (fun hc=>?_) (fun hc=>?_)
   ·simp only[aj]at hc;obtain⟨x,hx⟩:=bh (l:=e.args) (i:=i) om;have hmem:=af hx;rw[bt hx,Ex.bX,List.any_append]at h2;simp only[vq,seval];refine⟨om,om,bg hx ?_⟩;simp only[vq,seval];simp only[vq,seval,dI];refine aW (Pp _ _) (t123 l hll m x (hsub x hmem).1 (hsub x hmem).2) ?_;simp only[vq,seval];cases hv:x.nodes.any (gf l)with
    |true=>rw[h2,hv];simp only[vq,seval,ah,bS]
    |false=>rw[hv,Bool.false_or]at h2;simp only[vq,seval,ah,bS];refine bL (i+1) om (a9 ?_) ⟨om,h2⟩;simp only[vq,seval];rw[a8 om om];trivial
   ·simp only[ak]at hc;rw[b4 om,Ex.bX]at h2;rw[h2,List.any_nil];simp only[vq,seval,ah,bS]
def lC(l:List Vr)(e:Ex):Int:=if e.nodes.any fN=true then 9 else if e.nodes.any (gf l)=true then 7 else 0
theorem t68(l:List Vr)(hll:l.length<=maxLen)(e:Ex)(he:nA e):CallP Tryz.prog 68 [.d (cz l),.agg (e.d.map .d)] (.d (.int .i64 (lC l e))):=by
 refine cc68.go ac68 rfl ?_;simp only[vq,seval,ac68,dI];refine aW (p9 _) (t122 _ e (aq _) he) ?_;simp only[vq,seval];unfold lC;cases h:e.nodes.any fN with
 |true=>simp only[vq,seval,ah,bS]
 |false=>
  simp only[vq,seval,ah,bS,dI];refine aW (Pp _ _) (t123 l hll _ e (aq _) he) ?_;simp only[vq,seval];cases h2:e.nodes.any (gf l)with
  |true=>simp only[vq,seval,ah,bS]
  |false=>simp only[vq,seval,ah,bS]
def lg(l:List Vr)(e:Ex):Int:=if lE e≠0 then lE e else lC l e
theorem t31(l:List Vr)(hll:l.length<=maxLen)(x:List Ex)(hx:x.length<=maxLen)(he:∀e∈x,nA e):CallP Tryz.prog 31 [.d (cz l),.d (.sl 4 (x.map Ex.d))] (.d (.int .i64 (fE (lg l) x))):=by
 have hm:=hm;refine cc31.go ac31 rfl ?_;simp only[vq,seval,ac31];refine bb (fun i:Nat=>⟨cC 31 [(0,.d (cz l)),(1,.d (.sl 4 (x.map Ex.d))),(5,.d (.int .i64 i))],[]⟩) (fun i=>i<=x.length/\fE (lg l) x=fE (lg l) (x.drop i)) (fun i=>x.length-i) 0 (a9 vt) sm ?_;rintro i ⟨h1,h2⟩;simp only[vq,seval];refine aZ (fun hc=>?_) (fun hc=>?_)
 ·simp only[aj]at hc;obtain⟨e,hx⟩:=bh (l:=x) (i:=i) om;have hok:=he e (af hx);rw[bt hx,fE]at h2;simp only[vq,seval];refine⟨om,om,bg hx ?_⟩;simp only[vq,seval];simp only[vq,seval,dI];refine aW (p9 _) (t67 e hok) ?_;simp only[vq,seval];by_cases hv:lE e=0
  ·simp only[vq,seval,ah,bS,dt hv];refine⟨om,om,bg hx ?_⟩;simp only[vq,seval];simp only[vq,seval,dI];refine aW (Pp _ _) (t68 l hll e hok) ?_;simp only[vq,seval];have hE:lg l e=lC l e:=by rw[lg,if_neg (fun h=>h hv)]
   rw[hE]at h2;by_cases hp:lC l e=0
   ·rw[if_pos hp]at h2;simp only[vq,seval,ah,bS,dt hp];refine bL (i+1) om (a9 ?_) ⟨om,h2⟩;simp only[vq,seval];rw[a8 om om];trivial
   ·rw[if_neg hp]at h2;simp only[vq,seval,ah,bS,df hp,h2]
  ·have hE:lg l e=lE e:=by rw[lg,if_pos hv]
   rw[hE,if_neg hv]at h2;simp only[vq,seval,ah,bS,df hv,h2]
 ·simp only[ak]at hc;rw[b4 om,fE]at h2;rw[h2];simp only[vq,seval]
def mE(w:Wt):Bool:=decide (w.lo<0)||(decide (w.hi<w.lo)||(decide (65535<w.hi)||(decide (w.wt<0)||decide (1000<w.wt))))
def xp(l:List Vr)(pre:List Ds)(x:Ds):Int:=if gj l x.v=false then 1 else if(pre.any fun y=>decide (y.v=x.v))=true then 8 else if 16<x.ws.length then 2 else if x.ws.any mE=true then 1 else 0
def gI(l:List Vr):List Ds->List Ds->Int
 |_,[]=>0
 |pre,x::r=>if xp l pre x=0 then gI l (pre++[x]) r else xp l pre x
theorem bQ{α:Type}{l:List α}{i:Nat}{x:α}(h:l[i]? =some x):l.take (i+1)=l.take i++[x]:=by rw[List.take_add_one,h];rfl
set_option maxRecDepth 100000 in
theorem t32(l:List Vr)(hll:l.length<=maxLen)(ds:List Ds)(hd:ds.length<=maxLen)(hw:∀x∈ds,x.ws.length<=maxLen):CallP Tryz.prog 32 [.d (cz l),.d (.sl 2 (ds.map Ds.d))] (.d (.int .i64 (gI l [] ds))):=by
 have hm:=hm;refine cc32.go ac32 rfl ?_;simp only[vq,seval,ac32];refine bb (fun i:Nat=>⟨cC 109 [(0,.d (cz l)),(1,.d (.sl 2 (ds.map Ds.d))),(5,.d (.int .i64 i))],[]⟩) (fun i=>i<=ds.length/\gI l [] ds=gI l (ds.take i) (ds.drop i)) (fun i=>ds.length-i) 0 (a9 vt) sm ?_;rintro i ⟨h1,h2⟩;simp only[vq,seval];refine aZ (fun hc=>?_) (fun hc=>?_)
 ·simp only[aj]at hc;obtain⟨x,hx⟩:=bh (l:=ds) (i:=i) om;have hwx:=hw x (af hx);rw[bt hx,gI,<-bQ hx]at h2;have fin:xp l (ds.take i) x≠0->gI l [] ds=xp l (ds.take i) x:=fun h=>by rw[h2,if_neg h]
  have go:xp l (ds.take i) x=0->gI l [] ds=gI l (ds.take (i+1)) (ds.drop (i+1)):=fun h=>by rw[h2,if_pos h]
  have b1:gj l x.v=false->gI l [] ds=1:=fun h=>by
   have e:xp l (ds.take i) x=1:=by rw[xp,if_pos h]
   rw[fin (by rw[e];decide),e]
  clear h2;simp only[vq,seval];refine⟨om,om,bg hx ?_⟩;simp only[vq,seval];simp only[vq,seval,Ds.d];by_cases c1:x.v<0
  ·rw[b1 (by unfold gj;rw[df (show¬0<=x.v by omega)];rfl)];simp only[vq,seval,dt c1]
  simp only[vq,seval,df c1];refine⟨om,om,bg hx ?_⟩;simp only[vq,seval];simp only[vq,seval,Ds.d];by_cases c2:(l.length:Int)<=x.v
  ·rw[b1 (by unfold gj;rw[aA om,Bool.and_false])];simp only[vq,seval,cz,dt c2]
  simp only[vq,seval,cz,df c2];refine⟨om,om,bg hx ?_⟩;simp only[vq,seval];simp only[vq,seval,Ds.d];obtain⟨v,hv⟩:=bh (l:=l) (i:=x.v.toNat) om;refine⟨om,om,bg hv ?_⟩;simp only[vq,seval,Vr.d];by_cases c3:v.m=0
  ·rw[b1 (by unfold gj;rw[hv];simp[c3])];simp only[vq,seval,dt c3]
  have hr:gj l x.v=true:=by unfold gj;rw[hv,dt (show 0<=x.v by omega)];simp[c3]
  simp only[vq,seval,df c3];refine bb (fun k:Nat=>⟨cC 109 [(0,.d (cz l)),(1,.d (.sl 2 (ds.map Ds.d))),(5,.d (.int .i64 i)),(6,.d (.int .i64 k))],[]⟩) (fun k=>k<=i/\((ds.take i).any fun y=>decide (y.v=x.v))=(((ds.take i).drop k).any fun y=>decide (y.v=x.v))) (fun k=>i-k) 0 (a9 (by simp only[vq,seval,cz];try trivial)) sm ?_;rintro k ⟨g1,g2⟩;simp only[vq,seval];refine aZ (fun hk=>?_) (fun hk=>?_)
  ·simp only[aj]at hk;obtain⟨y,hy⟩:=bh (l:=ds) (i:=k) om;have hy2:(ds.take i)[k]? =some y:=by rw[List.getElem?_take,if_pos om];exact hy
   rw[bt hy2,List.any_cons]at g2;simp only[vq,seval];refine du rfl ?_;simp only[vq,seval];refine⟨om,om,bg hy ?_⟩;simp only[vq,seval];simp only[vq,seval,Ds.d];refine⟨om,om,bg hx ?_⟩;simp only[vq,seval];simp only[vq,seval,Ds.d];by_cases hyx:y.v=x.v
   ·have e:xp l (ds.take i) x=8:=by rw[xp,if_neg (by rw[hr];simp),if_pos (by rw[g2,dt hyx,Bool.true_or])]
    rw[fin (by rw[e];decide),e];simp only[vq,seval,dt hyx]
   ·rw[df hyx,Bool.false_or]at g2;simp only[vq,seval,df hyx];refine bL (k+1) om (a9 ?_) ⟨om,g2⟩;simp only[vq,seval];rw[a8 om om];trivial
  simp only[ak]at hk;rw[b4 (by rw[List.length_take];omega),List.any_nil]at g2;have e0:xp l (ds.take i) x=if 16<x.ws.length then 2 else if x.ws.any mE=true then 1 else 0:=by rw[xp,if_neg (by rw[hr];simp),if_neg (by rw[g2];simp)]
  simp only[vq,seval];refine⟨om,om,bg hx ?_⟩;simp only[vq,seval];simp only[vq,seval,Ds.d];by_cases h16:(16:Int)<x.ws.length
  ·rw[if_pos om]at e0;rw[fin (by rw[e0];decide),e0];simp only[vq,seval,dt h16]
  rw[if_neg om]at e0;simp only[vq,seval,df h16];refine bb (fun k:Nat=>⟨cC 109 [(0,.d (cz l)),(1,.d (.sl 2 (ds.map Ds.d))),(5,.d (.int .i64 i)),(7,.d (.int .i64 k))],[]⟩) (fun k=>k<=x.ws.length/\x.ws.any mE=(x.ws.drop k).any mE) (fun k=>x.ws.length-k) 0 (a9 vt) sm ?_;rintro k ⟨g1,g3⟩;simp only[vq,seval];refine⟨om,om,bg hx ?_⟩;simp only[vq,seval];simp only[vq,seval,Ds.d];refine aZ (fun hk=>?_) (fun hk=>?_)
  ·simp only[aj]at hk;obtain⟨w,hw2⟩:=bh (l:=x.ws) (i:=k) om;rw[bt hw2,List.any_cons]at g3;have bad:mE w=true->gI l [] ds=1:=fun h=>by rw[g3,h,Bool.true_or,if_pos rfl]at e0;rw[fin (by rw[e0];decide),e0]
   simp only[vq,seval];refine⟨om,om,bg hx ?_⟩;simp only[vq,seval];simp only[vq,seval,Ds.d];refine⟨om,om,bg hw2 ?_⟩;simp only[vq,seval];simp only[vq,seval,Wt.d,List.map_cons,List.map_nil];by_cases d1:w.lo<0
   ·rw[bad (by rw[mE,dt d1];simp only[bS])];simp only[vq,seval,dt d1]
   by_cases d2:w.hi<w.lo
   ·rw[bad (by rw[mE,dt d2];simp only[bS])];simp only[vq,seval,df d1,dt d2]
   by_cases d3:65535<w.hi
   ·rw[bad (by rw[mE,dt d3];simp only[bS])];simp only[vq,seval,df d1,df d2,dt d3]
   by_cases d4:w.wt<0
   ·rw[bad (by rw[mE,dt d4];simp only[bS])];simp only[vq,seval,df d1,df d2,df d3,dt d4]
   by_cases d5:1000<w.wt
   ·rw[bad (by rw[mE,dt d5];simp only[bS])];simp only[vq,seval,df d1,df d2,df d3,df d4,dt d5]
   rw[show mE w=false by rw[mE,df d1,df d2,df d3,df d4,df d5];rfl,Bool.false_or]at g3;simp only[vq,seval,df d1,df d2,df d3,df d4,df d5];refine bL (k+1) om (eN 0 om (by simp only[vq,seval];rw[a8 om om];trivial) rfl trivial) ⟨om,g3⟩
  ·simp only[ak]at hk;rw[b4 om,List.any_nil]at g3;rw[g3,if_neg sm]at e0;simp only[vq,seval];refine bL (i+1) om (a9 ?_) ⟨om,go e0⟩;simp only[vq,seval];rw[a8 om om];trivial
 ·simp only[ak]at hc;rw[b4 om,gI]at h2;rw[h2];simp only[vq,seval]
def tO(n:Nat)(v:Int):Bool:=decide (0<=v)&&decide (v<(n:Int))
def fB(l:List Vr)(i:Nat):Nat:=match l[i]? with|some x=>if x.m=0 then 0 else 1|none=>0
def ja(l:List Vr)(gs:List (List Int)):Bool:=(gs.all fun g=>decide (g≠[]))&&(gs.flatten.all (tO l.length)&&(List.range l.length).all fun i=>decide (gs.flatten.count (i:Int)=fB l i))
def pH(n:Nat)(pre:List Int):List (List V):=(List.range n).map fun(i:Nat)=>[.d (.int .i64 ((pre.count (i:Int):Nat):Int))]
theorem eI(n:Nat)(pre:List Int):(pH n pre).length=n:=by simp[pH]
theorem nM{n:Nat}{pre:List Int}{v:Int}(h0:0<=v)(h1:v<n):(pH n pre)[v.toNat]? =some [.d (.int .i64 ((pre.count v:Nat):Int))]:=by rw[pH,ar,List.getElem?_range om];simp only[Option.map_some];rw[show((v.toNat:Nat):Int)=v by omega]
theorem F0{n:Nat}{pre:List Int}{v:Int}(h0:0<=v)(h1:v<n):(pH n pre).set v.toNat [.d (.int .i64 (((pre.count v:Nat):Int)+1))]=pH n (pre++[v]):=by
 refine List.ext_getElem? fun i=>?_;rw[List.getElem?_set];by_cases hi:i<n
 ·by_cases h:v.toNat=i
  ·rw[if_pos h,if_pos (by rw[eI];omega)];subst h;rw[nM h0 h1];simp
  ·rw[if_neg h];have:=nM (n:=n) (pre:=pre) (v:=(i:Int)) om om;have h2:=nM (n:=n) (pre:=pre++[v]) (v:=(i:Int)) om om;simp only[Int.toNat_natCast]at this h2;rw[this,h2,List.count_append,show[v].count (i:Int)=0 by rw[List.count_singleton];simp;omega,Nat.add_zero]
 ·rw[aA (by rw[eI];omega)];rw[aA (l:=pH n (pre++[v])) (by rw[eI];omega),eI];split
  ·rw[if_neg om]
  ·rfl
theorem qF{gs:List (List Int)}{i:Nat}{g:List Int}(h:gs[i]? =some g):(gs.take (i+1)).flatten=(gs.take i).flatten++g:=by rw[bQ h,List.flatten_append];simp
theorem xP{gs:List (List Int)}{g:List Int}{v:Int}(h:g∈gs)(hv:v∈g):v∈gs.flatten:=List.mem_flatten.2 ⟨g,h,hv⟩
theorem t33(l:List Vr)(hll:l.length<=16)(gs:List (List Int))(hg:gs.length<=65536)(hgs:∀g∈gs,g.length<=65536):CallP Tryz.prog 33 [.d (cz l),.d (.sl 1 (gs.map gD))] (.d (.bool (ja l gs))):=by
 have hm:=hm;have hmL:=dx;have hfl:gs.flatten.length<=4294967296:=by
  have:∀gs:List (List Int),(∀g∈gs,g.length<=65536)->gs.flatten.length<=gs.length*65536:=fun gs=>by
   induction gs with
   |nil=>intro _;simp
   |cons g gs ih=>intro h;have h1:=h g sm;have h2:=ih fun x hx=>h x (by simp[hx]);simp only[List.flatten_cons,az,List.length_cons];omega
  have:=this gs hgs;omega
 refine cc33.go ac33 rfl ?_;simp only[vq,seval,ac33,cz];refine⟨om,om,om,om,?_⟩;have e0:List.replicate l.length [V.d (D.int .i64 0)]=pH l.length []:=by
  refine List.ext_getElem? fun i=>?_;by_cases hi:i<l.length
  ·have:=nM (n:=l.length) (pre:=[]) (v:=(i:Int)) om om;simp only[Int.toNat_natCast]at this;rw[this,List.getElem?_replicate,if_pos hi];rfl
  ·rw[aA (by rw[List.length_replicate];omega),aA (by rw[eI];omega)]
 rw[e0];refine bb (fun i:Nat=>⟨cC 76 [(0,.d (cz l)),(1,.d (.sl 1 (gs.map gD))),(5,.cl 1 0 l.length 0 l.length),(6,.d (.int .i64 i))],[.live 1 (pH l.length (gs.take i).flatten)]⟩) (fun i=>i<=gs.length/\(∀g∈gs.take i,g≠[])/\∀v∈(gs.take i).flatten,tO l.length v=true) (fun i=>gs.length-i) 0 (a9 (by simp only[vq,seval,cz];try trivial)) sm ?_;rintro i ⟨h1,h2,h3⟩;simp only[vq,seval];refine aZ (fun hc=>?_) (fun hc=>?_)
 ·simp only[aj]at hc;obtain⟨g,hx⟩:=bh (l:=gs) (i:=i) om;have hmem:=af hx;have hgl:=hgs g hmem;simp only[vq,seval];refine⟨om,om,bg hx ?_⟩;simp only[vq,seval];simp only[vq,seval,gD];have no:(gs.all fun g=>decide (g≠[]))=false\/gs.flatten.all (tO l.length)=false->ja l gs=false:=fun h=>by
   unfold ja;rcases h with h|h
   ·rw[h];rfl
   ·rw[h,Bool.false_and,Bool.and_false]
  by_cases hg0:(g.length:Int)=0
  ·rw[no (.inl (by rw[List.all_eq_false];exact⟨g,hmem,by simp only[ne_eq,ah,Bool.not_eq_true',ak,Classical.not_not];exact aQ om⟩))];simp only[vq,seval,dt hg0]
  simp only[vq,seval,df hg0];have e1:pH l.length (gs.take i).flatten=pH l.length ((gs.take i).flatten++g.take 0):=by rw[List.take_zero,List.append_nil]
  rw[e1];refine bb (fun k:Nat=>⟨cC 76 [(0,.d (cz l)),(1,.d (.sl 1 (gs.map gD))),(5,.cl 1 0 l.length 0 l.length),(6,.d (.int .i64 i)),(7,.d (.int .i64 k))],[.live 1 (pH l.length ((gs.take i).flatten++g.take k))]⟩) (fun k=>k<=g.length/\∀v∈g.take k,tO l.length v=true) (fun k=>g.length-k) 0 (a9 vt) sm ?_;rintro k ⟨g1,g2⟩;simp only[vq,seval];refine⟨om,om,bg hx ?_⟩;simp only[vq,seval];simp only[vq,seval,gD];refine aZ (fun hk=>?_) (fun hk=>?_)
  ·simp only[aj]at hk;obtain⟨v,hv⟩:=bh (l:=g) (i:=k) om;have hvm:=af hv;have bad:tO l.length v=false->ja l gs=false:=fun h=>no (.inr (by rw[List.all_eq_false];exact⟨v,xP hmem hvm,by rw[h];simp⟩));simp only[vq,seval];refine⟨om,om,bg hx ?_⟩;simp only[vq,seval];simp only[vq,seval,gD];refine⟨om,om,bg hv ?_⟩;simp only[vq,seval];simp only[vq,seval,iD];by_cases c1:v<0
   ·rw[bad (by unfold tO;rw[df (show¬0<=v by omega)];rfl)];simp only[vq,seval,dt c1]
   simp only[vq,seval,df c1];by_cases c2:(l.length:Int)<=v
   ·rw[bad (by unfold tO;rw[df (show¬v<l.length by omega),Bool.and_false])];simp only[vq,seval,cz,dt c2]
   simp only[vq,seval,cz,df c2];have hlt:((gs.take i).flatten++g.take k).count v<=8589934592:=by
    refine Nat.le_trans List.count_le_length ?_;have:(gs.take i).flatten.length<=gs.flatten.length:=by have:=congrArg (fun l=>(List.flatten l).length) (List.take_append_drop i gs);simp only[List.flatten_append,az]at this;omega
    rw[az,List.length_take];omega
   refine⟨om,om,eI _ _,eI _ _,b8 (nM om om) ?_⟩;simp only[vq,seval];refine⟨om,om,eI _ _,eI _ _,b8 (nM om om) ?_⟩;simp only[vq,seval];rw[a8 om om,a8 om om,F0 (pre:=(List.take i gs).flatten++List.take k g) (v:=v) (n:=l.length) om om,List.append_assoc,<-bQ hv];refine bL (k+1) om (a9 ?_) ⟨om,fun w hw=>?_⟩
   ·simp only[vq,seval];trivial
   ·rw[bQ hv,aU]at hw;rcases hw with hw|hw
    ·exact g2 w hw
    ·obtain rfl:=List.mem_singleton.1 hw;unfold tO;rw[dt (show 0<=w by omega),dt (show w<l.length by omega)];rfl
  ·simp only[ak]at hk;simp only[vq,seval];rw[al (l:=g) om]at g2|-;rw[<-qF hx];refine bL (i+1) om (a9 ?_) ⟨om,fun g' h'=>?_,fun w hw=>?_⟩
   ·simp only[vq,seval];rw[a8 om om];trivial
   ·rw[bQ hx,aU]at h';rcases h' with h'|h'
    ·exact h2 g' h'
    ·obtain rfl:=List.mem_singleton.1 h';rintro rfl;exact hg0 rfl
   ·rw[qF hx,aU]at hw;rcases hw with hw|hw
    ·exact h3 w hw
    ·exact g2 w hw
 simp only[ak]at hc;rw[al (l:=gs) om]at h2 h3|-;have hG:ja l gs=(List.range l.length).all fun i=>decide (gs.flatten.count (i:Int)=fB l i):=by unfold ja;rw[aG.2 (fun g hg=>decide_eq_true (h2 g hg)),aG.2 h3];rfl
 simp only[vq,seval];refine bb (fun k:Nat=>⟨cC 76 [(0,.d (cz l)),(5,.cl 1 0 l.length 0 l.length),(9,.d (.int .i64 k))],[.live 1 (pH l.length gs.flatten)]⟩) (fun k=>k<=l.length/\∀j<k,gs.flatten.count (j:Int)=fB l j) (fun k=>l.length-k) 0 (a9 vt) sm ?_;rintro k ⟨g1,g2⟩;simp only[vq,seval,cz];refine aZ (fun hk=>?_) (fun hk=>?_)
 ·simp only[aj]at hk;obtain⟨x,hx⟩:=bh (l:=l) (i:=k) om;simp only[vq,seval];refine⟨om,om,bg hx ?_⟩;simp only[vq,seval];simp only[vq,seval,Vr.d];have ma:gs.flatten.count (k:Int)<=4294967296:=Nat.le_trans List.count_le_length hfl;have hcn:=nM (n:=l.length) (pre:=gs.flatten) (v:=(k:Int)) om om;rw[Int.toNat_natCast]at hcn;have bad:gs.flatten.count (k:Int)≠fB l k->ja l gs=false:=fun h=>by rw[hG,List.all_eq_false];exact⟨k,List.mem_range.2 om,by rw[aj];exact h⟩
  have hwt:fB l k=if x.m=0 then 0 else 1:=by unfold fB;rw[hx]
  have go:gs.flatten.count (k:Int)=fB l k->∀j<k+1,gs.flatten.count (j:Int)=fB l j:=fun h j hj=>by
   by_cases e:j=k
   ·subst e;exact h
   ·exact g2 j om
  by_cases hx0:x.m=0
  ·rw[if_pos hx0]at hwt;simp only[vq,seval,dt hx0];refine⟨om,om,eI _ _,eI _ _,b8 hcn ?_⟩;by_cases hq:((gs.flatten.count (k:Int):Nat):Int)=0
   ·simp only[vq,seval,ah,bS,dt hq];refine bL (k+1) om (a9 ?_) ⟨om,go om⟩;simp only[vq,seval,cz];rw[a8 om om];trivial
   ·rw[bad om];simp only[vq,seval,ah,bS,df hq]
  ·rw[if_neg hx0]at hwt;simp only[vq,seval,df hx0];refine⟨om,om,eI _ _,eI _ _,b8 hcn ?_⟩;by_cases hq:((gs.flatten.count (k:Int):Nat):Int)=1
   ·simp only[vq,seval,ah,bS,dt hq];refine bL (k+1) om (a9 ?_) ⟨om,go om⟩;simp only[vq,seval,cz];rw[a8 om om];trivial
   ·rw[bad om];simp only[vq,seval,ah,bS,df hq]
 ·simp only[ak]at hk;have:ja l gs=true:=by rw[hG,aG];exact fun j hj=>decide_eq_true (g2 j (by have:=List.mem_range.1 hj;omega))
  simp only[vq,seval,this]
def sT(l:List Vr)(gs:List (List Int)):Int:=if ja l gs=true then 0 else 1
def cE(p:Pr):Int:=if ou p.vars≠0 then ou p.vars else if fE (lg p.vars) p.cj≠0 then fE (lg p.vars) p.cj else if fE (lg p.vars) p.soft≠0 then fE (lg p.vars) p.soft else if gI p.vars [] p.bZ≠0 then gI p.vars [] p.bZ else sT p.vars p.br
theorem gK{l:List Vr}(h:ou l=0):l.length<=16:=by
 unfold ou at h;split at h
 ·cases h
 ·omega
theorem t12(p:Pr)(ok:g8 p):CallP Tryz.prog 12 [.agg (p.d.map .d)] (.d (.int .i64 (cE p))):=by
 have hm:=hm;have hl:=ok.vars.1;have hmL:=dx;obtain⟨k1,k2,k3,k4⟩:=ok.lens;refine cc12.go ac12 rfl ?_;simp only[vq,seval,ac12,Pr.d,List.map_cons,List.map_nil];refine aW rfl (t30 p.vars ok.vars) ?_;simp only[vq,seval];unfold cE;by_cases h1:ou p.vars=0
 ·rw[if_neg (fun x=>x h1)];have h16:=gK h1;simp only[vq,seval,ah,bS,dt h1];refine aW rfl (t31 p.vars hl p.cj om ok.cj) ?_;simp only[vq,seval];by_cases h2:fE (lg p.vars) p.cj=0
  ·rw[if_neg (fun x=>x h2)];simp only[vq,seval,ah,bS,dt h2];refine aW rfl (t31 p.vars hl p.soft om ok.soft) ?_;simp only[vq,seval];by_cases h3:fE (lg p.vars) p.soft=0
   ·rw[if_neg (fun x=>x h3)];simp only[vq,seval,ah,bS,dt h3];refine aW rfl (t32 p.vars hl p.bZ om ok.bZ) ?_;simp only[vq,seval];by_cases h4:gI p.vars [] p.bZ=0
    ·rw[if_neg (fun x=>x h4)];simp only[vq,seval,ah,bS,dt h4];refine aW rfl (t33 p.vars h16 p.br k4 ok.br) ?_;simp only[vq,seval];unfold sT;cases hg:ja p.vars p.br with
     |true=>simp only[vq,seval,ah,bS]
     |false=>simp only[vq,seval,ah,bS]
    ·rw[if_pos h4];simp only[vq,seval,ah,bS,df h4]
   ·rw[if_pos h3];simp only[vq,seval,ah,bS,df h3]
  ·rw[if_pos h2];simp only[vq,seval,ah,bS,df h2]
 ·rw[if_pos h1];simp only[vq,seval,ah,bS,df h1]
theorem bk{b0:Nat}{fr fr':List V}{rows rows':Go.Vx.Rows}(he:rows=rows')(h:pX fr fr'):fb b0 ⟨fr,rows⟩ ⟨fr',rows'⟩:=he▸a9 h
theorem bz{b0:Nat}{fr fr':List V}{rows rows':Go.Vx.Rows}(m:Nat)(hm:b0<=m)(he:rows.take m=rows')(h2:fr'.all (hB m)=true)(hr:kg m rows')(h:pX fr fr'):fb b0 ⟨fr,rows⟩ ⟨fr',rows'⟩:=by subst he;exact eN m hm h h2 hr
def fT:List Vr->Nat->List Int
 |[],_=>[]
 |x::l,k=>if x.m=0 then fT l (k+1)else(k:Int)::fT l (k+1)
theorem th(a:List Vr)(x:Vr)(k:Nat):fT (a++[x]) k=fT a k++(if x.m=0 then[]else[((k+a.length:Nat):Int)]):=by
 induction a generalizing k with
 |nil=>simp only[List.nil_append,fT,List.length_nil,Nat.add_zero]
 |cons y a ih=>simp only[List.cons_append,fT,ih,List.length_cons];rw[show k+1+a.length=k+(a.length+1) by omega];split<;>simp
theorem rz(a:List Vr)(k:Nat):(fT a k).length<=a.length:=by
 induction a generalizing k with
 |nil=>exact aq _
 |cons y a ih=>rw[fT];have:=ih (k+1);split<;>simp only[List.length_cons]<;>omega
def ku(p:Pr):List Int:=if cE p=0 then fT p.vars 0 else[]
def rI(l:List Int):bd:=.live 1 ((l.map iD).map (·.map .d))
theorem nY{m sz:Nat}{l:List (List D)}:dz m (.live sz (l.map (·.map .d))):=fun x hx v hv=>by obtain⟨e,_,rfl⟩:=aw.1 hx;obtain⟨d,_,rfl⟩:=aw.1 hv;rfl
theorem qG(p:Pr):([V.agg (p.d.map .d)]:List V).all kv=true:=p9 _
theorem bj(p:Pr):p.d.map V.d=[.d (cz p.vars),.d (.sl 4 (p.cj.map Ex.d)),.d (.sl 4 (p.soft.map Ex.d)),.d (.sl 2 (p.bZ.map Ds.d)),.d (.sl 1 (p.br.map gD))]:=rfl
theorem t39(p:Pr)(ok:g8 p):CallP Tryz.prog 39 [.agg (p.d.map .d)] (.d (.sl 1 ((ku p).map iD))):=by
 have hm:=hm;have hl:=ok.vars.1;have hmL:=dx;refine cc39.go (AC.at AC.wk [1,1,1,0,0] ac39) rfl ?_;have C:=t12 p ok;rw[bj]at C|-;simp only[vq,seval,ac39,AC.at];refine aW (qG p) (C) ?_;simp only[vq,seval];unfold ku;by_cases h:cE p=0
 ·have h16:p.vars.length<=16:=gK (by
   unfold cE at h;split at h
   ·exact h
   ·rename_i h1;exact Classical.not_not.1 h1)
  rw[if_pos h];simp only[vq,seval,ah,bS,dt h];refine fu _ (eJ 3 1 rfl) ?_;simp only[vq,seval];refine bb (fun i:Nat=>⟨cC 27 [(1,.aY 5 0 1 0 0),(3,.cl 1 1 (fT (p.vars.take i) 0).length 0 (fT (p.vars.take i) 0).length),(4,.d (.int .i64 i))],[.live 5 [p.d.map .d],rI (fT (p.vars.take i) 0)]⟩) (fun i=>i<=p.vars.length) (fun i=>p.vars.length-i) 0 (a9 (by simp only[vq,seval,bj];try trivial)) om ?_;rintro i h1;simp only[vq,seval,bj,cz];refine aZ (fun hc=>?_) (fun hc=>?_)
  ·simp only[aj]at hc;obtain⟨x,hx⟩:=bh (l:=p.vars) (i:=i) om;have hln:=rz (p.vars.take i) 0;rw[List.length_take]at hln;have hs:=th (p.vars.take i) x 0;rw[<-bQ hx,List.length_take,Nat.min_eq_left h1,Nat.zero_add]at hs;simp only[vq,seval];refine⟨om,om,bg hx ?_⟩;simp only[vq,seval];simp only[vq,seval,Vr.d];by_cases h0:x.m=0
   ·rw[if_pos h0,List.append_nil]at hs;simp only[vq,seval,ah,bS,dt h0];refine bL (i+1) om (bk (by rw[hs]) ?_) om;rw[hs];simp only[vq,seval];rw[a8 om om];trivial
   ·rw[if_neg h0]at hs;simp only[vq,seval,ah,bS,df h0,rI];refine⟨by simp only[bM];omega,?_⟩;refine bL (i+1) om (bz 2 om (by rw[hs];simp[iD]) rfl ⟨eE (e:=p.d),nY (l:=(fT (p.vars.take (i+1)) 0).map iD),trivial⟩ ?_) om;rw[hs];simp only[vq,seval,az];rw[a8 om om];trivial
  ·simp only[ak]at hc;rw[al om];simp only[vq,seval];exact da (es:=(fT p.vars 0).map iD) rfl sm om Ge (by rw[List.drop_zero,al sm])
 ·rw[if_neg h];simp only[vq,seval,ah,bS,df h]
theorem Ci(l:List Vr)(k:Nat)(f:Int->Int)(hf:∀i x,l[i]? =some x->f ((k+i:Nat):Int)=x.w):((fT l k).map f).sum=dk l:=by
 induction l generalizing k with
 |nil=>rfl
 |cons x l ih=>
  have h0:=hf 0 x rfl;rw[Nat.add_zero]at h0;have:=ih (k+1) fun i y hy=>by rw[show k+1+i=k+(i+1) by omega];exact hf (i+1) y (by simpa using hy)
  rw[fT,dk];split
  ·rw[this];omega
  ·rw[List.map_cons,List.sum_cons,h0,this]
def n8(l:List Vr)(i:Int):Int:=match l[i.toNat]? with|some x=>x.w|none=>0
theorem xg(l:List Vr):((fT l 0).map (n8 l)).sum=dk l:=Ci l 0 _ fun i x h=>by rw[n8];simp[h]
theorem rj{l:List Vr}{k:Nat}{i:Int}(h:i∈fT l k):(k:Int)<=i/\i<(k+l.length:Nat):=by
 induction l generalizing k with
 |nil=>cases h
 |cons x l ih=>
  rw[fT]at h;split at h
  ·have:=ih h;rw[List.length_cons];omega
  ·rcases aP.1 h with rfl|h
   ·rw[List.length_cons];omega
   ·have:=ih h;rw[List.length_cons];omega
theorem ec{p:Pr}(h:cE p=0):ou p.vars=0:=by
 unfold cE at h;split at h
 ·exact h
 ·rename_i h1;exact Classical.not_not.1 h1
theorem tA{l:List Vr}(h:ou l=0):fE n7 l=0/\qk l=false/\dk l<=20:=by
 unfold ou at h;split at h
 ·cases h
 split at h
 ·rename_i h1;exact absurd h h1
 rename_i h1;split at h
 ·cases h
 rename_i h2;split at h
 ·cases h
 split at h
 ·cases h
 exact⟨Classical.not_not.1 h1,by simpa using h2,om⟩
def dE(p:Pr):Int:=if cE p=0 then dk p.vars else 0
theorem Jx{p:Pr}{i:Int}(h:i∈ku p):0<=i/\i<p.vars.length/\∃x,p.vars[i.toNat]? =some x/\n8 p.vars i=x.w/\1<=x.w/\x.w<=8:=by
 unfold ku at h;split at h
 ·rename_i hv;have:=rj h;rw[Nat.zero_add]at this;obtain⟨x,hx⟩:=bh (l:=p.vars) (i:=i.toNat) om;have hE:=nv (tA (ec hv)).1 x (af hx);have:=(n6 hE).2;exact⟨om,om,x,hx,by rw[n8,hx],om,om⟩
 ·cases h
theorem zr(p:Pr):((ku p).map (n8 p.vars)).sum=dE p:=by
 unfold ku dE;split
 ·exact xg _
 ·rfl
theorem wZ(p:Pr):(ku p).length<=16:=by
 unfold ku;split
 ·rename_i h;have:=rz p.vars 0;have:=gK (ec h);omega
 ·exact Nat.zero_le _
theorem t15(p:Pr)(ok:g8 p):CallP Tryz.prog 15 [.agg (p.d.map .d)] (.d (.int .i64 (dE p))):=by
 have hm:=hm;have hl:=ok.vars.1;have C:=t39 p ok;have hln:=wZ p;rw[bj]at C|-;refine cc15.go ac15 rfl ?_;simp only[vq,seval,ac15];refine aW (qG p) (C) ?_;simp only[vq,seval];refine bb (fun t:Nat×Int=>⟨cC 26 [(1,.aY 5 0 1 0 0),(3,.d (.sl 1 ((ku p).map iD))),(4,.d (.int .i64 t.2)),(5,.d (.int .i64 t.1))],[.live 5 [p.d.map .d]]⟩) (fun t=>t.1<=(ku p).length/\t.2+(((ku p).drop t.1).map (n8 p.vars)).sum=dE p/\0<=t.2/\t.2<=8*t.1) (fun t=>(ku p).length-t.1) (0,0) (a9 (by simp only[vq,seval,bj];try trivial)) ⟨Nat.zero_le _,by rw[List.drop_zero,zr];simp,sm,sm⟩ ?_;rintro⟨i,n⟩ ⟨h1,h2,h3,h4⟩;dsimp only at h1 h2 h3 h4;simp only[vq,seval,bj];refine aZ (fun hc=>?_) (fun hc=>?_)
 ·simp only[aj]at hc;obtain⟨v,hx⟩:=bh (l:=ku p) (i:=i) om;rw[bt hx,List.map_cons,List.sum_cons]at h2;obtain⟨g1,g2,x,g3,g4,g5,g6⟩:=Jx (af hx);simp only[vq,seval];refine du rfl ?_;simp only[vq,seval,cz];refine⟨om,om,bg hx ?_⟩;simp only[vq,seval];simp only[vq,seval,iD];refine⟨om,om,bg g3 ?_⟩;simp only[vq,seval,Vr.d];refine bL (i+1,n+x.w) (by dsimp only;omega) (a9 ?_) ⟨by dsimp only;omega,by dsimp only;rw[g4]at h2;omega,by dsimp only;omega,by dsimp only;omega⟩;simp only[vq,seval,cz];rw[a8 om om,a8 om om];trivial
 ·simp only[ak]at hc;rw[b4 om,List.map_nil,List.sum_nil,Int.add_zero]at h2;rw[<-h2];simp only[vq,seval]
end Go.Proofs.Tp
