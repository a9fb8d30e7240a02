/- Proved: contracts of functions that the laws of Top reach, and plain facts for them. Conditions: those that each lemma states. -/
import Derived.Test.YtmhkppbollghoaaGreatDoorS1
set_option linter.unusedSectionVars false
set_option linter.unusedSimpArgs false
set_option linter.unusedVariables false
namespace Go.Proofs.Tp
open Go.Vx
def Bb(p:Pr)(i:Int):Ex:=(p.soft[i.toNat]?).getD (gh 0)
def ik(p:Pr):List Ex:=db p++(sj p).map (Bb p)
theorem uS(p:Pr):(sj p).length<=p.soft.length/\∀x∈sj p,0<=x/\x<p.soft.length:=by
 obtain⟨h1,h2⟩:=oZ p p.soft.length (db p) [];refine⟨by simpa[sj]using h1,fun x hx=>?_⟩;rcases h2 x (by simpa[sj]using hx)with h|h
 ·cases h
 ·exact h
theorem zn{p:Pr}{i:Int}(h0:0<=i)(h:i<p.soft.length):p.soft[i.toNat]? =some (Bb p i):=by unfold Bb;rw[ae om];rfl
theorem kA{p:Pr}(ok:g8 p)(hv:cE p=0):∀e∈ik p,qe p.vars e:=fun e he=>by
 rcases aU.1 he with h|h
 ·exact Ae ok hv (yb ok hv) e h
 ·obtain⟨i,hi,rfl⟩:=aw.1 h;obtain⟨h0,h1⟩:=(uS p).2 i hi;exact vB ok hv _ (af (zn h0 h1))
theorem Ji(p:Pr)(ok:g8 p)(hv:cE p≠0):CallP Tryz.prog 7 [.agg (p.d.map .d)] (.cm [.d .bm,.d (.int .i64 1)]):=by
 have C1:=t34 p ok;have C:CallP Tryz.prog 19 [.agg (p.d.map .d)] (.cm [.d .bm,.d (.int .i64 1)]):=by rw[bj]at C1|-;refine cc19.go ac19 rfl ?_;simp only[vq,seval,ac19];refine aW (qG p) (C1) ?_;simp only[vq,seval];simp only[vq,seval,ah,bS,df hv];exact .d _
 rw[bj]at C|-;refine cc7.go ac7 rfl ?_;simp only[vq,seval,ac7];refine aW (qG p) (C) ?_;simp only[vq,seval];exact .d _
theorem t7(p:Pr)(ok:g8 p)(hv:cE p=0)(hb:dE p<=18):CallP Tryz.prog 7 [.agg (p.d.map .d)] (if gE p (db p)=true then .cm [.d (.sl 4 ((ik p).map Ex.d)),.d (.int .i64 0)]else .cm [.d .bm,.d (.int .i64 11)]):=by
 have hmL:=dx;have hm:=hm;have l1:=ok.lens.1;have l2:=ok.lens.2.1;have l3:=ok.lens.2.2.1;have hnl:(db p).length<=131072:=by simp[db,dm];omega
 have C1:=t19 p ok hv (yb ok hv) hb;have C2:= @HO;obtain⟨k1,k2⟩:=uS p;have hro:=kA ok hv;rw[bj]at C1|-;have C2:=fun(cp:bf)=> @HO cp p ok hv (.live 5 [p.d.map .d]);rw[bj]at C2;refine cc7.go (AC.at (AC.look [false,true]) [1,1,1,0] ac7) rfl ?_;simp only[vq,seval,ac7,AC.at,AC.look];refine aW (qG p) (C1) ?_;simp only[vq,seval];cases hsol:gE p (db p)with
 |false=>simp only[vq,seval,ah,bS];exact .d _
 |true=>
  simp only[vq,seval,ah,bS];refine dh (b6 (C2 _) ?_);rintro _ _ ⟨rfl,rfl⟩;simp only[vq,seval];obtain⟨S,hS⟩:∃S,S=(sj p).map (Bb p):=⟨_,rfl⟩;have hSl:S.length=(sj p).length:=by rw[hS,an]
  have hrl:ik p=db p++S:=by rw[ik,hS]
  rw[hrl]at hro|-;generalize db p=N at hnl hro|-;generalize sj p=K at hS hSl k1 k2|-;refine bb (fun i:Nat=>⟨cC 50 [(1,.aY 5 0 1 0 0),(6,.cl 4 2 (N.length+i) 0 (N.length+i)),(20,.d (.sl 1 (K.map iD))),(21,.d (.int .i64 K.length)),(22,.d (.int .i64 i))],[.live 5 [p.d.map .d],.live 5 [p.d.map .d],.live 4 (((N++S.take i).map Ex.d).map (·.map .d))]⟩) (fun i=>i<=K.length) (fun i=>K.length-i) 0 (bk (by simp[bj]) vt) om ?_;rintro i h1;simp only[vq,seval,bj];refine aZ (fun hc=>?_) (fun hc=>?_)
  ·simp only[aj]at hc;obtain⟨x,hx⟩:=bh (l:=K) (i:=i) om;have hs:S[i]? =some (Bb p x):=by rw[hS,ar,hx];rfl
   obtain⟨x0,x1⟩:=k2 x (af hx);have hg:=zn x0 x1;generalize Bb p x=e at hs hg;obtain⟨j,rfl⟩:=Int.eq_ofNat_of_zero_le x0;rw[Int.toNat_natCast]at hg;have hLl:((N++S.take i).map Ex.d).length=N.length+i:=by simp;omega
   have hsn:(N++S.take (i+1)).map Ex.d=(N++S.take i).map Ex.d++[e.d]:=by rw[bQ hs];simp
   generalize (N++S.take i).map Ex.d=L at hLl hsn|-;simp only[vq,seval];refine⟨om,om,bg hx ?_⟩;simp only[vq,seval];simp only[vq,seval,iD,dI];refine⟨om,om,bg hg ?_⟩;simp only[vq,seval];simp only[vq,seval,dI];refine⟨hLl,by simp only[bM];omega,?_⟩;refine bL (i+1) om (bz 3 sm (by rw[hsn];simp[bj]) rfl ⟨eE (e:=p.d),eE (e:=p.d),nY (l:=(N++S.take (i+1)).map Ex.d),trivial⟩ ?_) om;simp only[vq,seval];rw[a8 om om];trivial
  ·simp only[ak]at hc;obtain rfl:i=K.length:=om;rw[al om];have hal:(N++S).length=N.length+K.length:=by simp;omega
   rw[<-hal];generalize N++S=A at hal hro|-;have hB:∀x∈((A.map Ex.d).map (·.map V.d)),x.length=4:=fun x hx=>by obtain⟨y,hy,rfl⟩:=aw.1 hx;obtain⟨z,_,rfl⟩:=aw.1 hy;rw[an,z.cN]
   have eT:∀(i:Nat) (x:Ex),A[i]? =some x->(((A.map Ex.d).map (·.map V.d)))[i]? =some (x.d.map .d):=fun i x h=>by rw[ar,ar,h];rfl
   simp only[vq,seval];refine bb (fun i:Nat=>⟨cC 50 [(6,.cl 4 2 A.length 0 A.length),(36,.d (.int .i64 A.length)),(37,.d (.int .i64 i))],[.live 5 [p.d.map .d],.live 5 [p.d.map .d],.live 4 ((A.map Ex.d).map (·.map .d))]⟩) (fun i=>i<=A.length) (fun i=>A.length-i) 0 (bk (by simp[bj]) vt) om ?_;rintro i h1;simp only[vq,seval,bj];refine aZ (fun hc=>?_) (fun hc=>?_)
   ·simp only[aj]at hc;obtain⟨x,hx⟩:=bh (l:=A) (i:=i) om;have hxo:=(hro x (af hx)).1;simp only[vq,seval];refine⟨om,om,b8 (eT i x hx) ?_⟩;simp only[vq,seval,dI];refine aW (p9 _) (t21 _ x (aq _) hxo) ?_;simp only[vq,seval];refine⟨om,om,Ex.cN _,Pt _,b8 (eT i x hx) ?_⟩;simp only[vq,seval,dI];refine bL (i+1) om (bk ?_ ?_) om
    ·have h4:List.drop 4 (x.d.map V.d)=[]:=aR (by rw[an,x.cN];exact aq _);rw[h4,List.append_nil,gM (eT i x hx)]
    ·simp only[vq,seval];rw[a8 om om];trivial
   ·simp only[ak]at hc;simp only[vq,seval];exact da (es:=A.map Ex.d) rfl sm om (fun y hy=>by obtain⟨t,_,rfl⟩:=aw.1 hy;exact t.cN) (by rw[List.drop_zero,al sm])
theorem tH{z:D}(es:List (B×D))(s t:B)(x:D):dL z (dU es s x) t=if s=t then x else dL z es t:=by
 induction es with
 |nil=>rfl
 |cons p es ih=>
  rw[dU];by_cases h:p.1=s
  ·rw[if_pos h];by_cases h2:s=t
   ·simp[dL,h2]
   ·simp[dL,h2,h]
  ·rw[if_neg h,dL,ih];by_cases h2:s=t
   ·subst h2;simp[h]
   ·simp[dL,h2]
def Er(l:List Vr):List (B×D):=l.foldl (fun m x=>dU m x.nm (.bool true)) []
theorem ED(l:List Vr)(x:Vr):Er (l++[x])=dU (Er l) x.nm (.bool true):=by unfold Er;rw[List.foldl_append];rfl
theorem IE(l:List Vr)(t:B):dL (.bool false) (Er l) t=.bool (l.any fun x=>decide (x.nm=t)):=by
 have:∀(l:List Vr) (es:List (B×D)) (b:Bool),dL (.bool false) es t=.bool b->dL (.bool false) (l.foldl (fun m x=>dU m x.nm (.bool true)) es) t=.bool (b||l.any fun x=>decide (x.nm=t)):=fun l=>by
  induction l with
  |nil=>intro es b h;simpa using h
  |cons x l ih=>
   intro es b h;rw[List.foldl_cons,ih _ (b||decide (x.nm=t)) (by
    rw[tH];by_cases h2:x.nm=t
    ·rw[if_pos h2,decide_eq_true h2,Bool.or_true]
    ·rw[if_neg h2,decide_eq_false h2,Bool.or_false];exact h),List.any_cons,Bool.or_assoc]
 rw[Er,this l [] false rfl,Bool.false_or]
theorem wz{l:List Vr}{e:Ex}(h:lC l e=0):dT [3,24] e=[]/\∀s∈dT [2] e,(l.any fun x=>decide (x.nm=s))=true:=by have h1:=(vh h).1;have h2:=Ab l e h1;rw[decide_eq_true h]at h2;refine⟨?_,fun s hs=>aG.1 h2.symm s hs⟩;have h3:=oV e;rw[h1,ak]at h3;exact List.length_eq_zero_iff.1 om
theorem t137(p:Pr)(ok:g8 p)(hv:cE p=0)(l:List Ex)(hl:l.length<=maxLen)(hok:∀e∈l,qe p.vars e):CallP Tryz.prog 137 [.agg (p.d.map .d),.d (.sl 4 (l.map Ex.d))] (.d (.int .i64 0)):=by
 have hmL:=dx;have hm:=hm;have hvl:=ok.vars.1;have C1:=t34 p ok;rw[bj]at C1|-;refine cc137.go ac137 rfl ?_;simp only[vq,seval,ac137];refine aW (qG p) (C1) ?_;simp only[vq,seval];simp only[vq,seval,ah,bS,dt hv];refine bb (fun i:Nat=>⟨cC 62 [(1,.d (.sl 4 (l.map Ex.d))),(2,.aY 5 0 1 0 0),(17,.d (.sl 4 (l.map Ex.d))),(18,.d (.int .i64 l.length)),(19,.d (.int .i64 i))],[.live 5 [p.d.map .d]]⟩) (fun i=>i<=l.length) (fun i=>l.length-i) 0 (bk (by simp[bj]) vt) om ?_;rintro i h1;simp only[vq,seval,bj];refine aZ (fun hc=>?_) (fun hc=>?_)
 ·simp only[aj]at hc;obtain⟨x,hx⟩:=bh (l:=l) (i:=i) om;have hxo:=hok x (af hx);simp only[vq,seval];refine⟨om,om,bg hx ?_⟩;simp only[vq,seval];simp only[vq,seval,dI];refine aW (p9 _) (t97 x hxo.1) ?_;simp only[vq,seval];simp only[vq,seval,ah,bS,dt hxo.2.1];refine bL (i+1) om (bz 1 sm (by simp[bj]) rfl ⟨eE (e:=p.d),trivial⟩ ?_) om;simp only[vq,seval];rw[a8 om om];trivial
 ·simp only[ak]at hc;simp only[vq,seval,cz];refine bb (fun i:Nat=>⟨cC 62 [(1,.d (.sl 4 (l.map Ex.d))),(2,.aY 5 0 1 0 0),(7,.aY 0 1 0 1 0),(29,.d (.sl 4 (p.vars.map Vr.d))),(30,.d (.int .i64 p.vars.length)),(31,.d (.int .i64 i))],[.live 5 [p.d.map .d],.obj (.mp (Er (p.vars.take i)))]⟩) (fun i=>i<=p.vars.length) (fun i=>p.vars.length-i) 0 (bk (by simp[bj,cz,Er]) vt) om ?_;rintro j h2;simp only[vq,seval,bj];refine aZ (fun hc2=>?_) (fun hc2=>?_)
  ·simp only[aj]at hc2;obtain⟨x,hx⟩:=bh (l:=p.vars) (i:=j) om;have hs:Er (p.vars.take (j+1))=dU (Er (p.vars.take j)) x.nm (.bool true):=by rw[bQ hx,ED]
   simp only[vq,seval];refine⟨om,om,bg hx ?_⟩;simp only[vq,seval];simp only[vq,seval,Vr.d,List.map_cons,List.map_nil];refine bL (j+1) om (bz 2 sm (by simp[bj,hs]) rfl ⟨eE (e:=p.d),trivial,trivial⟩ ?_) om;simp only[vq,seval];rw[a8 om om];trivial
  ·simp only[ak]at hc2;obtain rfl:j=p.vars.length:=om;rw[al (aq _)];simp only[vq,seval];refine bb (fun i:Nat=>⟨cC 62 [(7,.aY 0 1 0 1 0),(39,.d (.sl 4 (l.map Ex.d))),(40,.d (.int .i64 l.length)),(41,.d (.int .i64 i))],[.live 5 [p.d.map .d],.obj (.mp (Er p.vars))]⟩) (fun i=>i<=l.length) (fun i=>l.length-i) 0 (bk (by simp[bj]) vt) om ?_;rintro i h1;simp only[vq,seval,bj];refine aZ (fun hc=>?_) (fun hc=>?_)
   ·simp only[aj]at hc;obtain⟨x,hx⟩:=bh (l:=l) (i:=i) om;have hxo:=hok x (af hx);obtain⟨n1,n2⟩:=wz hxo.2.2;simp only[vq,seval];refine⟨om,om,bg hx ?_⟩;simp only[vq,seval];simp only[vq,seval,dI];refine aW (p9 _) (t130 x hxo.1) ?_;simp only[vq,seval];simp only[vq,seval,ah,bS,n1,dI];refine aW (p9 _) (t132 x hxo.1) ?_;simp only[vq,seval];have hnl:=kL [2] x;have hn:=hxo.1.1;generalize dT [2] x=N at n2 hnl;refine bb (fun k:Nat=>⟨cC 62 [(7,.aY 0 1 0 1 0),(39,.d (.sl 4 (l.map Ex.d))),(40,.d (.int .i64 l.length)),(41,.d (.int .i64 i)),(50,.d (.sl 1 (N.map sD))),(51,.d (.int .i64 N.length)),(52,.d (.int .i64 k))],[.live 5 [p.d.map .d],.obj (.mp (Er p.vars)),.live 4 [x.d.map .d]]⟩) (fun k=>k<=N.length) (fun k=>N.length-k) 0 (bk (by simp[bj]) vt) om ?_;rintro k h3;simp only[vq,seval,bj];refine aZ (fun hc3=>?_) (fun hc3=>?_)
    ·simp only[aj]at hc3;obtain⟨n,hn2⟩:=bh (l:=N) (i:=k) om;have n3:=n2 n (af hn2);simp only[vq,seval];refine⟨om,om,bg hn2 ?_⟩;simp only[vq,seval];simp only[vq,seval,ah,bS,sD,IE,n3];refine bL (k+1) om (bk (by simp[bj]) ?_) om;simp only[vq,seval];rw[a8 om om];trivial
    ·simp only[vq,seval];refine bL (i+1) om (bz 2 sm (by simp[bj]) rfl ⟨eE (e:=p.d),trivial,trivial⟩ ?_) om;simp only[vq,seval];rw[a8 om om];trivial
   ·simp only[vq,seval,ah,bS]
theorem t80(p:Pr)(ok:g8 p)(hv:cE p=0)(hb:dE p<=18)(l:List Ex)(hl:l.length<=4294967296)(hok:∀e∈l,qe p.vars e):CallP Tryz.prog 80 [.agg (p.d.map .d),.d (.sl 4 (l.map Ex.d))] (.cm [.d (.bool (gE p l)),.d (.int .i64 0)]):=by have hmL:=dx;have C1:=t137 p ok hv l om hok;have C2:=t46 p ok hv hb l hok hl;rw[bj]at C1 C2|-;refine cc80.go ac80 rfl ?_;simp only[vq,seval,ac80];refine aW (Cs p.d _) (C1) ?_;simp only[vq,seval];refine aW (Cs p.d _) (C2) ?_;simp only[vq,seval]
theorem t186(n:Nat)(hn:n<=4294967296):dn Tryz.prog 186 [.d .bm,.d (.int .i64 n)] [] (fun v R=>(n=0/\v=.d .bm/\R=[])\/(0<n/\v=.cl 1 0 n 0 0/\∃es:List (List V),es.length=n/\R=[.live 1 es])):=by
 have hmL:=dx;refine cc186.gi ac186 rfl ?_;simp only[vq,seval,ac186];by_cases h:(0:Int)<n
 ·simp only[vq,seval,df (show¬(n:Int)<0 by omega),dt h];rw[Pm,Int.sub_zero,a8 om om];simp only[vq,seval,dt h];refine⟨om,by simp only[bM];omega,?_⟩;exact⟨sm,om,.inr ⟨om,_,sm,rfl⟩⟩
 ·simp only[vq,seval,df (show¬(n:Int)<0 by omega),df h];rw[Pm,Int.sub_zero,a8 om om];simp only[vq,seval,df h];exact .inl om
theorem t138(a b:List Int)(ha:a.length<=65536)(hb:b.length<=65536):CallP Tryz.prog 138 [.d (.sl 1 [[.sl 1 (a.map iD)],[.sl 1 (b.map iD)]])] (.d (.sl 1 ((a++b).map iD))):=by
 have hmL:=dx;refine cc138.go (AC.at AC.wk [1,1,1,1,0,0] (AC.at (AC.look [false,true]) [1,1,1,0] ac138)) rfl ?_;simp only[vq,seval,ac138,AC.at,AC.look];refine bb (fun i:Nat=>⟨cC 36 [(0,.d (.sl 1 [[.sl 1 (a.map iD)],[.sl 1 (b.map iD)]])),(2,.d .bm),(3,.d (.int .i64 (if i=0 then 0 else if i=1 then a.length else a.length+b.length))),(9,.d (.sl 1 [[.sl 1 (a.map iD)],[.sl 1 (b.map iD)]])),(10,.d (.int .i64 2)),(11,.d (.int .i64 i))],[]⟩) (fun i=>i<=2) (fun i=>2-i) 0 (a9 vt) om ?_;intro i hi;have:i=0\/i=1\/i=2:=om;rcases this with rfl|rfl|rfl
 ·simp only[vq,seval];rw[a8 om om];simp only[vq,seval,df (show¬(0:Int)+a.length<0 by omega)];refine bL 1 om (a9 ?_) om;simp only[vq,seval,Int.zero_add];rfl
 ·simp only[vq,seval];rw[a8 om om];simp only[vq,seval,df (show¬(a.length:Int)+b.length<0 by omega)];refine bL 2 om (a9 ?_) om;simp only[vq,seval];rfl
 ·simp only[vq,seval];have hc:((a.length:Int)+b.length)=((a.length+b.length:Nat):Int):=om;rw[hc];refine dh (b6 (t186 _ om) ?_);have W:∀v R,(a.length+b.length=0/\v=V.d .bm/\R=[])\/(0<a.length+b.length/\v=.cl 1 0 (a.length+b.length) 0 0/\∃es:List (List V),es.length=a.length+b.length/\R=[.live 1 es])->fb 0 ⟨cC 36 [(0,.d (.sl 1 [[.sl 1 (a.map iD)],[.sl 1 (b.map iD)]])),(2,.d .bm),(6,v)],R⟩ ⟨cC 36 [(0,.d (.sl 1 [[.sl 1 (a.map iD)],[.sl 1 (b.map iD)]])),(2,.d .bm),(6,.cl 1 0 0 0 0)],[.live 1 []]⟩:=by
   rintro v R (⟨h1,rfl,rfl⟩|⟨h1,rfl,es,h2,rfl⟩)
   ·exact eJ 6 1 rfl
   ·refine s4 h2 ?_
    repeat(first|exact trivial|refine⟨by first|exact .inl rfl|exact .inr (.inl ⟨_,rfl,rfl⟩)|exact .inr (.inr ⟨rfl,rfl⟩),?_⟩)
  intro v R hvR;have W:=W v R hvR;simp only[vq,seval];refine fu _ ((a9 ?_).trans W) ?_
  ·clear W;rcases hvR with⟨_,rfl,_⟩|⟨_,rfl,_⟩<;>simp only[vq,seval]
  simp only[vq,seval];refine bb (fun t:Nat×List Int=>⟨cC 36 [(6,.cl 1 0 t.2.length 0 t.2.length),(25,.d (.sl 1 [[.sl 1 (a.map iD)],[.sl 1 (b.map iD)]])),(26,.d (.int .i64 2)),(27,.d (.int .i64 t.1))],[.live 1 ((t.2.map iD).map (·.map .d))]⟩) (fun t=>t.1<=2/\t.2=(if t.1=0 then[]else if t.1=1 then a else a++b)) (fun t=>2-t.1) (0,[]) (a9 vt) ⟨sm,rfl⟩ ?_;rintro⟨k,l⟩ ⟨h1,h2⟩;dsimp only at h1 h2;have:k=0\/k=1\/k=2:=om;rcases this with rfl|rfl|rfl
  ·obtain rfl:l=[]:=h2;simp only[vq,seval];refine⟨by simp only[bM];omega,bL (1,a) sm (bz 1 om rfl rfl ⟨nY,trivial⟩ ?_) ⟨sm,rfl⟩⟩;simp only[vq,seval];rfl
  ·obtain rfl:l=a:=h2;simp only[vq,seval];refine⟨by simp only[bM];omega,bL (2,l++b) sm (bz 1 om sm rfl ⟨nY,trivial⟩ ?_) ⟨sm,rfl⟩⟩;simp only[vq,seval,az];rfl
  ·obtain rfl:l=a++b:=h2;simp only[vq,seval];exact da (es:=(a++b).map iD) rfl sm om Ge (by rw[List.drop_zero,al sm])
theorem t81(s:List Int)(i:Nat)(hi:i<s.length)(hl:s.length<=65536):CallP Tryz.prog 81 [.d (.sl 1 (s.map iD)),.d (.int .i64 i)] (.d (.sl 1 ((s.eraseIdx i).map iD))):=by
 have hmL:=dx;have C:=t138 (s.take i) (s.drop (i+1)) so so;rw[List.eraseIdx_eq_take_drop_succ];refine cc81.go ac81 rfl ?_;simp only[vq,seval,ac81];refine bW ?_;simp only[vq,seval]
 repeat(refine cc rfl rfl ?_;simp only[vq,seval])
 refine⟨om,om,?_⟩
 repeat(refine cc rfl rfl ?_;simp only[vq,seval])
 rw[a8 om om];refine⟨om,om,om,?_⟩
 repeat(refine cc rfl rfl ?_;simp only[vq,seval])
 have e1:(s.map iD).take i=(s.take i).map iD:=List.map_take.symm;have e2:List.drop ((i:Int)+1).toNat (List.take s.length (s.map iD))=(s.drop (i+1)).map iD:=by rw[al sm,show((i:Int)+1).toNat=i+1 by omega,<-List.map_drop]
 rw[e1,e2];have S:=fun(R:Go.Vx.Rows) (h:R[0]? =some (.live 1 ([[D.sl 1 ((s.take i).map iD)],[D.sl 1 ((s.drop (i+1)).map iD)]].map (·.map .d))))=>I5 h;refine uP (v:=.d (.sl 1 ((s.take i++s.drop (i+1)).map iD))) (fun v hv=>?_) ?_ ?_
 ·simp only[List.nil_append,List.append_nil,aP,List.not_mem_nil,or_false]at hv;subst hv;exact(S _ rfl).1
 ·simp only[List.nil_append,List.append_nil,List.map_cons,List.map_nil];exact(congrArg (fun x=>CallP Tryz.prog 138 [x] (.d (.sl 1 ((s.take i++s.drop (i+1)).map iD)))) (S _ rfl).2).mpr C
 ·simp only[vq,seval]
  repeat(refine cc rfl rfl ?_;simp only[vq,seval])
  exact .d _
def gL(p:Pr):List Int:=(List.range p.cj.length).map Int.ofNat
theorem t36(p:Pr)(ok:g8 p):CallP Tryz.prog 36 [.agg (p.d.map .d)] (.d (.sl 1 ((gL p).map iD))):=by
 have hmL:=dx;have l1:=ok.lens.1;have hA:(gL p).length=p.cj.length:=by simp[gL]
 have hT:∀i,i<p.cj.length->(gL p).take (i+1)=(gL p).take i++[(i:Int)]:=fun i hi=>bQ (by simp[gL,hi]);rw[bj];refine cc36.go ac36 rfl ?_;simp only[vq,seval,ac36];refine⟨om,om,om,om,sm,?_⟩;refine bb (fun i:Nat=>⟨cC 20 [(3,.cl 1 1 p.cj.length 0 p.cj.length),(10,.d (.int .i64 p.cj.length)),(11,.d (.int .i64 i))],[.live 5 [p.d.map .d],rI ((gL p).take i++List.replicate (p.cj.length-i) 0)]⟩) (fun i=>i<=p.cj.length) (fun i=>p.cj.length-i) 0 (bk (by simp[bj,rI,iD]) vt) om ?_;rintro i h1;have hLl:((gL p).take i++List.replicate (p.cj.length-i) 0).length=p.cj.length:=by simp[hA];omega
 simp only[vq,seval,bj,rI,an];refine aZ (fun hc=>?_) (fun hc=>?_)
 ·simp only[aj]at hc;have hset:((gL p).take i++List.replicate (p.cj.length-i) 0).set i (i:Int)=(gL p).take (i+1)++List.replicate (p.cj.length-(i+1)) 0:=by rw[hT i om,show p.cj.length-i=(p.cj.length-(i+1))+1 by omega,List.replicate_succ,dA _ _ _ _ (by simp[hA,Nat.min_eq_left (Nat.le_of_lt (show i<p.cj.length by omega))])];simp
  have hz:((gL p).take i++List.replicate (p.cj.length-i) 0)[i]? =some 0:=by rw[aJ (by simp[hA];omega)];simp[hA,Nat.min_eq_left h1,List.getElem?_replicate];omega
  generalize ((gL p).take i++List.replicate (p.cj.length-i) 0)=L at hLl hset hz|-;simp only[vq,seval,rI,an];refine⟨om,om,hLl,hLl,b8 (oS hz) ?_⟩;simp only[vq,seval,lf,hset];refine bL (i+1) om (bk (by simp only[rI,bj]) ?_) om;simp only[vq,seval];rw[a8 om om]
  try trivial
 ·simp only[ak]at hc;obtain rfl:i=p.cj.length:=om;rw[Nat.sub_self,List.replicate_zero,List.append_nil,al om];simp only[vq,seval];exact da (es:=(gL p).map iD) rfl (by simp[hA]) om Ge (by rw[List.drop_zero,al (by simp[hA])])
def jl(p:Pr)(i:Int):Ex:=(p.cj[i.toNat]?).getD (gh 0)
def oU(p:Pr)(s:List Int):Bool:= !gE p (dm p++s.map (jl p))
theorem qL{p:Pr}{i:Int}(h0:0<=i)(h:i<p.cj.length):p.cj[i.toNat]? =some (jl p i):=by unfold jl;rw[ae om];rfl
theorem Qz[bf](l:List Ex)(hl:l.length<=65536):dn Tryz.prog 79 [.d (.sl 4 (l.map Ex.d))] [] (fun v R=>(v=.d .bm/\l=[]/\R=[])\/(v=.cl 4 0 l.length 0 l.length/\∃B,R=.live 4 ((l.map Ex.d).map (·.map .d))::B)):=by
 have hmL:=dx;refine cc79.gi ac79 rfl ?_;cases l with
 |nil=>simp only[vq,seval,ac79,List.map_nil];exact⟨.inl trivial,by simp only[bM];omega,.inr ⟨_,rfl⟩⟩
 |cons x l=>simp only[List.length_cons]at hl;have eL:(Ex.d x::l.map Ex.d)=(x::l).map Ex.d:=rfl;simp only[vq,seval,ac79,List.map_cons];exact⟨by simp only[bM];omega,.inr ⟨_,rfl⟩⟩
theorem t78(p:Pr)(ok:g8 p)(hv:cE p=0)(hb:dE p<=18)(s:List Int)(hs:s.length<=65536)(hi:∀x∈s,0<=x/\x<p.cj.length):CallP Tryz.prog 78 [.d (.sl 1 (s.map iD)),.d (.ptr [.sl 4 ((dm p).map Ex.d)]),.d (.ptr p.d)] (.d (.bool (oU p s))):=by
 have hmL:=dx;have hm:=hm;have l1:=ok.lens.1;have l3:=ok.lens.2.2.1;have hsl:(dm p).length=p.bZ.length:=by simp[dm]
 have C1:=fun(cp:bf)=> @Qz cp (dm p) om;have hro:∀e∈dm p++s.map (jl p),qe p.vars e:=fun e he=>by
  rcases aU.1 he with h|h
  ·exact yb ok hv e h
  ·obtain⟨i,hx,rfl⟩:=aw.1 h;obtain⟨h0,h1⟩:=hi i hx;exact Az ok hv _ (af (qL h0 h1))
 have C2:=t80 p ok hv hb (dm p++s.map (jl p)) so hro;have e0:p.d=[cz p.vars,.sl 4 (p.cj.map Ex.d),.sl 4 (p.soft.map Ex.d),.sl 2 (p.bZ.map Ds.d),.sl 1 (p.br.map gD)]:=rfl;unfold oU;generalize dm p=S at*;refine cc78.go (AC.at AC.wk [1,1,1,0] (AC.at AC.wk [1,1,0,0] (AC.at (AC.look [false,true]) [1,0] ac78))) rfl ?_;simp only[vq,seval,ac78,AC.at,AC.look];refine dh (b6 (C1 _) ?_);intro v R hvR;have W:fb 0 ⟨cC 39 [(0,.d (.sl 1 (s.map iD))),(2,.d (.ptr p.d)),(5,v)],R⟩ ⟨cC 39 [(0,.d (.sl 1 (s.map iD))),(2,.d (.ptr p.d)),(5,.cl 4 0 S.length 0 S.length)],[.live 4 ((S.map Ex.d).map (·.map .d))]⟩:=by
  rcases hvR with⟨rfl,rfl,rfl⟩|⟨rfl,B,rfl⟩
  ·exact eJ 5 4 rfl
  ·exact bz 1 om rfl rfl ⟨nY,trivial⟩ (by simp only[vq,seval])
 simp only[vq,seval];refine fu _ ((a9 ?_).trans W) ?_
 ·simp only[vq,seval];refine mQ ?_;trivial
 clear W;clear hvR;simp only[vq,seval];refine bb (fun i:Nat=>⟨cC 39 [(2,.d (.ptr p.d)),(5,.cl 4 0 (S.length+i) 0 (S.length+i)),(12,.d (.sl 1 (s.map iD))),(13,.d (.int .i64 s.length)),(14,.d (.int .i64 i))],[.live 4 (((S++(s.take i).map (jl p)).map Ex.d).map (·.map .d))]⟩) (fun i=>i<=s.length) (fun i=>s.length-i) 0 (bk sm vt) om ?_;rintro i h1;simp only[vq,seval];refine aZ (fun hc=>?_) (fun hc=>?_)
 ·simp only[aj]at hc;obtain⟨x,hx⟩:=bh (l:=s) (i:=i) om;obtain⟨x0,x1⟩:=hi x (af hx);have hg:=qL x0 x1;have hLl:((S++(s.take i).map (jl p)).map Ex.d).length=S.length+i:=by simp;omega
  have hsn:(S++(s.take (i+1)).map (jl p)).map Ex.d=(S++(s.take i).map (jl p)).map Ex.d++[(jl p x).d]:=by rw[bQ hx];simp
  generalize (S++(s.take i).map (jl p)).map Ex.d=L at hLl hsn|-;generalize jl p x=e at hg hsn;obtain⟨j,rfl⟩:=Int.eq_ofNat_of_zero_le x0;rw[Int.toNat_natCast]at hg;simp only[vq,seval];refine⟨om,om,bg hx ?_⟩;simp only[vq,seval];simp only[vq,seval,iD,e0];refine⟨om,om,bg hg ?_⟩;simp only[vq,seval];simp only[vq,seval,dI];refine⟨hLl,by simp only[bM];omega,?_⟩;refine bL (i+1) om (bz 1 sm (by rw[hsn];simp) rfl ⟨nY (l:=(S++(s.take (i+1)).map (jl p)).map Ex.d),trivial⟩ ?_) om;simp only[vq,seval];rw[a8 om om];trivial
 ·simp only[ak]at hc;obtain rfl:i=s.length:=om;rw[al om];have hal:(S++s.map (jl p)).length=S.length+s.length:=by simp
  rw[<-hal];generalize S++s.map (jl p)=A at hal C2|-;simp only[vq,seval];refine fu ⟨cC 39 [(2,.d (.ptr p.d)),(5,.d (.sl 4 (A.map Ex.d)))],[]⟩ ((a9 (fr':=cC 39 [(2,.d (.ptr p.d)),(5,.cl 4 0 A.length 0 A.length)]) ?_).trans (kO 0 sm trivial (mO (i:=5) (v':=.d (.sl 4 (A.map Ex.d))) rfl (da (es:=A.map Ex.d) rfl sm om (fun y hy=>by obtain⟨t,_,rfl⟩:=aw.1 hy;exact t.cN) (by rw[List.drop_zero,al sm])) rfl))) ?_
  ·simp only[vq,seval]
   try trivial
  simp only[vq,seval];refine⟨by rw[Pr.cN];exact aq _,?_⟩;rw[al (by rw[Pr.cN];exact aq _)];refine aW (Cs p.d _) (C2) ?_;simp only[vq,seval]
def wQ(p:Pr):V:=.fn (.func 78) [] [.d (.ptr [.sl 4 ((dm p).map Ex.d)]),.d (.ptr p.d)]
theorem t35(p:Pr)(ok:g8 p)(hv:cE p=0):CallP Tryz.prog 35 [.agg (p.d.map .d)] (wQ p):=by
 have hmL:=dx;have C:=t47 p ok hv;rw[bj]at C|-;refine cc35.go ac35 rfl ?_;simp only[vq,seval,ac35];refine aW (qG p) (C) ?_;simp only[vq,seval];refine .fn _ _ _ _ _ rfl rfl (fun j v v' h=>by simp at h) (fun j v v' h1 h2=>?_)
 match j with
 |0=>simp at h1 h2;subst h1 h2;exact yj (sz:=1) rfl sm
 |1=>simp at h1 h2;subst h1 h2;exact yj (sz:=5) rfl (by rw[Pr.cN];exact aq _)
 |j+2=>simp at h1
def xW(p:Pr):Nat->List Int->List Int
 |0,s=>s
 |k+1,s=>if oU p (s.eraseIdx k)=true then xW p k (s.eraseIdx k)else xW p k s
theorem t37(p:Pr)(ok:g8 p)(hv:cE p=0)(hb:dE p<=18)(s:List Int)(hs:s.length<=65536)(hi:∀x∈s,0<=x/\x<p.cj.length):CallP Tryz.prog 37 [wQ p,.d (.sl 1 (s.map iD))] (.d (.sl 1 ((xW p s.length s).map iD))):=by
 have hmL:=dx;unfold wQ;refine cc37.go ac37 rfl ?_;simp only[vq,seval,ac37];rw[a8 om om];refine bb (fun t:Nat×List Int=>⟨cC 22 [(0,wQ p),(1,.d (.sl 1 (t.2.map iD))),(5,.d (.int .i64 ((t.1:Int)-1)))],[]⟩) (fun t=>t.1<=t.2.length/\t.2.length<=65536/\(∀x∈t.2,0<=x/\x<p.cj.length)/\xW p s.length s=xW p t.1 t.2) (fun t=>t.1) (s.length,s) (a9 (by simp only[vq,seval,wQ];try trivial)) ⟨aq _,hs,hi,rfl⟩ ?_;rintro⟨k,r⟩ ⟨h1,h2,h3,h4⟩;dsimp only at h1 h2 h3 h4;cases k with
 |zero=>rw[xW]at h4;rw[h4];simp only[vq,seval];exact .d _
 |succ k=>
  rw[xW]at h4;have hk1:(((k+1:Nat):Int)-1)=(k:Nat):=om;rw[hk1];simp only[vq,seval,dt (show(0:Int)<=(k:Nat) by omega)];refine aW rfl (t81 r k om h2) ?_;simp only[vq,seval];have hi2:∀x∈r.eraseIdx k,0<=x/\x<p.cj.length:=fun x hx=>h3 x (List.mem_of_mem_eraseIdx hx);have hl2:(r.eraseIdx k).length=r.length-1:=List.length_eraseIdx_of_lt om;simp only[vq,seval,wQ];have C:=t78 p ok hv hb (r.eraseIdx k) om hi2;refine aW nh (C) ?_;simp only[vq,seval];cases ht:oU p (r.eraseIdx k)with
  |true=>
   rw[ht,if_pos rfl]at h4;simp only[vq,seval];refine bL (k,r.eraseIdx k) sm (a9 ?_) ⟨by simp only;omega,by simp only;omega,hi2,h4⟩;simp only[vq,seval];rw[a8 om om]
   try trivial
  |false=>
   rw[ht,if_neg sm]at h4;simp only[vq,seval];refine bL (k,r) sm (a9 ?_) ⟨by simp only;omega,h2,h3,h4⟩;simp only[vq,seval];rw[a8 om om]
   try trivial
def yl(p:Pr):List Int:=xW p (gL p).length (gL p)
theorem yc(p:Pr):(gL p).length=p.cj.length/\∀x∈gL p,0<=x/\x<p.cj.length:=by refine⟨by simp[gL],fun x hx=>?_⟩;obtain⟨i,hi,rfl⟩:=aw.1 hx;have:=List.mem_range.1 hi;simp;omega
theorem t13(p:Pr)(ok:g8 p)(hv:cE p=0)(hb:dE p<=18):CallP Tryz.prog 13 [.agg (p.d.map .d)] (if oU p (gL p)=true then .cm [.d (.sl 1 ((yl p).map iD)),.d (.int .i64 0)]else .cm [.d .bm,.d (.int .i64 13)]):=by
 have hmL:=dx;have l1:=ok.lens.1;obtain⟨a1,a2⟩:=yc p;have C1:=t34 p ok;have C2:=t35 p ok hv;have C3:=t36 p ok;have C4:=t78 p ok hv hb (gL p) om a2;have C5:=t37 p ok hv hb (gL p) om a2;rw[bj]at C1 C2 C3|-;refine cc13.go ac13 rfl ?_;simp only[vq,seval,ac13];refine aW (qG p) (C1) ?_;simp only[vq,seval];simp only[vq,seval,ah,bS,dt hv];refine aW (qG p) (C2) ?_;simp only[vq,seval];refine aW (qG p) (C3) ?_;simp only[vq,seval];simp only[vq,seval,wQ];refine aW nh (C4) ?_;simp only[vq,seval];cases ht:oU p (gL p)with
 |false=>simp only[vq,seval,ah,bS];exact .d _
 |true=>simp only[vq,seval,ah,bS];refine aW (qG p) (C3) ?_;simp only[vq,seval];unfold wQ at C5;refine aW nh (C5) ?_;simp only[vq,seval];exact .d _
theorem GK{p:Pr}{a b:List Int}(h:∀x∈a,x∈b)(hb:oU p b=false):oU p a=false:=by
 unfold oU gE wK at hb|-;rw[Bool.not_eq_false',List.any_eq_true]at hb|-;obtain⟨y,hy,hr⟩:=hb;refine⟨y,hy,?_⟩;rw[aG]at hr|-;intro e he;apply hr e;rcases aU.1 he with he|he
 ·exact List.mem_append_left _ he
 ·obtain⟨x,hx,rfl⟩:=aw.1 he;exact List.mem_append_right _ (aw.2 ⟨x,h x hx,rfl⟩)
theorem vL(p:Pr):∀(k:Nat) (s:List Int),k<=s.length->(∀i,k<=i->i<s.length->oU p (s.eraseIdx i)=false)->∀i,i<(xW p k s).length->oU p ((xW p k s).eraseIdx i)=false
 |0,s,_,h,i,hi=>h i (Nat.zero_le _) hi
 |k+1,s,hk,h,i,hi=>by
  rw[xW]at hi|-;split at hi
  ·rename_i ht;rw[if_pos ht];have hl:(s.eraseIdx k).length=s.length-1:=List.length_eraseIdx_of_lt om;refine vL p k _ om (fun j h1 h2=>?_) i hi;refine GK (fun x hx=>?_) (h (j+1) om om);obtain⟨m,hm,hx⟩:=List.mem_eraseIdx_iff_getElem?.1 hx;rw[List.getElem?_eraseIdx]at hx;refine List.mem_eraseIdx_iff_getElem?.2 ?_;split at hx
   ·exact⟨m,om,hx⟩
   ·exact⟨m+1,om,hx⟩
  ·rename_i ht;rw[if_neg ht];refine vL p k _ om (fun j h1 h2=>?_) i hi;by_cases hj:j=k
   ·subst hj;simpa using ht
   ·exact h j om h2
theorem uC(p:Pr):∀(k:Nat) (s:List Int),∀x∈xW p k s,x∈s
 |0,s,x,h=>h
 |k+1,s,x,h=>by
  rw[xW]at h;split at h
  ·exact List.mem_of_mem_eraseIdx (uC p k _ x h)
  ·exact uC p k _ x h
theorem FY(p:Pr):(gL p).map (jl p)=p.cj:=by
 refine List.ext_getElem? fun i=>?_;rw[gL,List.map_map,ar];by_cases h:i<p.cj.length
 ·rw[List.getElem?_range h,ae h];simp[jl,ae h]
 ·rw[aA (by simpa using h),aA om];rfl
theorem wM(p:Pr)(a b:List Ex):gE p (a++b)=gE p (b++a):=by unfold gE wK;congr 1;funext y;rw[List.all_append,List.all_append,Bool.and_comm]
theorem Gt(p:Pr):oU p (gL p)= !gE p (db p):=by rw[oU,FY,wM,db]
theorem KE(p:Pr):(∀x∈yl p,0<=x/\x<p.cj.length)/\∀i,i<(yl p).length->gE p ((yl p).eraseIdx i|>.map (jl p)|>.append (dm p))=true:=by refine⟨fun x hx=>(yc p).2 x (uC p _ _ x hx),fun i hi=>?_⟩;have:=vL p (gL p).length (gL p) (aq _) (fun i h1 h2=>om) i hi;rw[oU,Bool.not_eq_false',wM]at this;exact this
end Go.Proofs.Tp
