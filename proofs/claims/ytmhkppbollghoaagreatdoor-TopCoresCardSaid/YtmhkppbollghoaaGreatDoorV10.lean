/- Proved: contracts of functions that the laws of Top reach, and plain facts for them. Conditions: those that each lemma states. -/
import Derived.Test.YtmhkppbollghoaaGreatDoorU5
set_option linter.unusedSectionVars false
set_option linter.unusedSimpArgs false
set_option linter.unusedVariables false
namespace Go.Proofs.Tp
open Go.Vx
section
variable[BE][NB]
theorem KZ{N:Gr}(G:ct N)(k:Nat):cU N (List.replicate k 0):=fun f hf=>by have:=G.two;rw[List.eq_of_mem_replicate hf];omega
theorem cU.cat{N:Gr}{a b:List Nat}(ha:cU N a)(hb:cU N b):cU N (a++b):=fun f hf=>by
 rcases aU.1 hf with h|h
 ·exact ha f h
 ·exact hb f h
theorem t164{N:Gr}(G:ct N){x y:List Nat}(hx:x.length=16)(hy:y.length=16)(hxN:cU N x)(hyN:cU N y):ff 164 [.aY 8 0 1 0 0,.agg (x.map iV),.agg (y.map iV)] N (vW (ue x y 0 (dS 0) N)):=by
 have hmL:=dx;have C0:=t101 0 om;have tx:=fm hx;have ty:=fm hy;refine gb cc164 (AC.at AC.pn [1,1,0,1,2,2,1,1,0,2,1,1,1] (AC.at AC.pn [1,1,0,1,2,2,1,1,0,2,1,1,0,1,2,2,1,0,2] ac164)) rfl ?_;simp only[vq,seval,ac164,AC.at];refine⟨hx,cb _,hy,cb _,?_⟩;refine aW rfl C0 ?_;have hl0:=hV 0;have tl0:=dy hl0;simp only[vq,seval,tl0];refine⟨cb _,?_⟩;refine bb (fun t:Nat×List Nat×Gr=>⟨cC 38 [(0,.aY 8 0 1 0 0),(4,.aY 16 1 1 0 0),(5,.aY 16 2 1 0 0),(6,.aY 16 3 1 0 0),(7,.aY 16 4 1 0 0),(12,.d (.int .i64 t.1))],[.live 8 (bl t.2.2),jJ x,jJ y,jJ (List.replicate 16 0),jJ t.2.1]⟩) (fun t=>t.1<=16/\ue x y 0 (dS 0) N=ue x (y.drop t.1) t.1 t.2.1 t.2.2/\ct t.2.2/\N.length<=t.2.2.length/\t.2.1.length=16/\cU t.2.2 t.2.1) (fun t=>16-t.1) (0,dS 0,N) (bk (by first|rfl|simp) vt) ⟨om,sm,G,aq _,hl0,mH G 0⟩ ?_;rintro⟨k,w,M⟩ ⟨h1,h2,h3,h4,h5,h6⟩;dsimp only at h1 h2 h3 h4 h5 h6;simp only[vq,seval];have tw:=fm h5;have lw:=dy h5;refine aZ (fun hc=>?_) (fun hc=>?_)
 ·simp only[aj]at hc;obtain⟨b,hb⟩:=bh (l:=y) (i:=k) om;have hbm:=hyN b (af hb);have h2M:=h3.two;have gb:=cK (fQ hb);obtain⟨q0,q1,q2⟩:=qj (i:=k) om;rw[bt hb,ue]at h2;have hxt:(x.take (16-k)).length=16-k:=by simp;omega
  have hxi:∀{j a:Nat},(x.take (16-k))[j]? =some a->x[j]? =some a/\a<N.length:=fun{j a} h=>by
   have:=hxN a (List.mem_of_mem_take (af h));rw[List.getElem?_take]at h;split at h
   ·exact⟨h,this⟩
   ·cases h
  simp only[vq,seval];generalize x.take (16-k)=xt at h2 hxt hxi;refine bb (fun t:Nat×List Nat×Gr=>⟨cC 38 [(0,.aY 8 0 1 0 0),(4,.aY 16 1 1 0 0),(5,.aY 16 2 1 0 0),(6,.aY 16 3 1 0 0),(7,.aY 16 4 1 0 0),(8,.d (.int .i64 k)),(9,.aY 16 5 1 0 0),(10,.d (.int .i64 t.1)),(12,.d (.int .i64 k))],[.live 8 (bl t.2.2),jJ x,jJ y,jJ (List.replicate 16 0),jJ w,jJ (List.replicate k 0++t.2.1++List.replicate (16-t.1) 0)]⟩) (fun t=>k<=t.1/\t.1<=16/\t.2.1.length=t.1-k/\anyS xt b M=(anyS (xt.drop (t.1-k)) b t.2.2).map (fun s=>(t.2.1++s.1,s.2))/\ct t.2.2/\M.length<=t.2.2.length/\cU t.2.2 t.2.1) (fun t=>16-t.1) (k,[],M) (bk (by rw[show List.replicate k 0++[]++List.replicate (16-k) 0=List.replicate 16 0 from by rw[List.append_nil,List.replicate_append_replicate];congr 1;omega];rfl) vt) ⟨aq _,h1,sm,sm,h3,aq _,fun f hf=>by cases hf⟩ ?_;rintro⟨i,o,L⟩ ⟨j0,j1,j2,j3,j4,j5,j6⟩;dsimp only at j0 j1 j2 j3 j4 j5 j6;simp only[vq,seval];refine aZ (fun hd=>?_) (fun hd=>?_)
  ·simp only[aj]at hd;obtain⟨a,ha⟩:=bh (l:=xt) (i:=i-k) om;obtain⟨hax,ham⟩:=hxi ha;rw[bt ha,anyS]at j3;have ga:=cK (fQ hax);obtain⟨p0,p1,p2⟩:=qj (i:=i-k) om;obtain⟨s0,s1,s2⟩:=qj (i:=i) om;have hw:IntKind.i64.wrap ((i:Int)-(k:Int))=((i-k:Nat):Int):=by rw[a8 om om];omega
   have hL:(List.replicate k 0++o++List.replicate (16-i) 0).length=16:=by simp;omega
   have hset:∀v,(List.replicate k 0++o++List.replicate (16-i) 0).set i v=List.replicate k 0++(o++[v])++List.replicate (16-(i+1)) 0:=fun v=>by rw[show 16-i=(16-(i+1))+1 by omega,List.replicate_succ,dA _ _ _ _ so];simp
   generalize List.replicate k 0++o++List.replicate (16-i) 0=P at hL hset|-;have C1:=t162 j4 (f:=a) (g:=b) om om;simp only[vq,seval];cases hr1:gF L a b with
   |none=>
    simp only[hr1,Option.bind_none,Option.map_none]at j3;rw[hr1]at C1;simp only[j3,Option.bind_none]at h2;rw[h2];refine cv 10 rfl ?_;simp only[vq,seval,hw,p0,p1,p2,q0,q1,q2,ga,gb]
    repeat(refine dC rfl rfl ?_;simp only[vq,seval,hw,p0,p1,p2,q0,q1,q2,ga,gb])
    refine b9 0 (vals0:=[.aY 8 0 1 0 0,iV a,iV b]) rfl rfl Rr rfl (ba _ _ L) C1 ?_;exact fq
   |some r1=>
    obtain⟨u1,l1⟩:=jA j4 (f:=a) (g:=b) om om hr1;have m1:=u1.l;simp only[hr1,Option.bind_some]at j3;rw[hr1]at C1;refine dj ?_;refine bW ?_;simp only[vq,seval,bp,hw,p0,p1,p2,q0,q1,q2,ga,gb]
    repeat(refine cc rfl rfl ?_;simp only[vq,seval,bp,hw,p0,p1,p2,q0,q1,q2,ga,gb])
    refine bF 0 (vals0:=[.aY 8 0 1 0 0,iV a,iV b]) (v0:=iV r1.1) (es':=bl r1.2) rfl rfl Rr rfl (ba _ _ L) (ba _ _ r1.2) rfl C1 ?_
    repeat(refine cc rfl rfl ?_;simp only[vq,seval,bp,s0,s1,s2])
    rw[kf om,hset];refine bL (i+1,o++[r1.1],r1.2) (by simp only;omega) (bk rfl ?_) ⟨by simp only;omega,by simp only;omega,by simp[j2];omega,by simp only;rw[j3,show i+1-k=i-k+1 by omega];simp[Option.map_map,Function.comp_def],u1.g,by simp only;omega,(j6.app m1).cat fun f hf=>by simp at hf;subst hf;exact l1⟩;simp only[vq,seval];rw[a8 om om]
    try trivial
  ·simp only[ak]at hd;obtain rfl:i=16:=om;rw[aR om,anyS]at j3;simp only[Option.map_some,List.append_nil]at j3;simp only[j3,Option.bind_some]at h2;rw[Nat.sub_self,List.replicate_zero,List.append_nil];simp only[vq,seval];have hP:(List.replicate k 0++o).length=16:=by simp;omega
   have iP:cU L (List.replicate k 0++o):=(KZ j4 k).cat j6;have h6:=h6.app j5;have h2L:=j4.two;generalize List.replicate k 0++o=P at hP iP h2|-;have tP:=fm hP;have C2:=t160 j4 h5 hP h6 iP (c:=0) om;cases hr2:lX w P 0 L with
   |none=>simp only[hr2,Option.bind_none]at h2;rw[hr2]at C2;rw[h2];refine cr 3 rfl ?_;simp only[vq,seval,tw,tP];refine b9 0 (vals0:=[.aY 8 0 1 0 0,.agg (w.map iV),.agg (P.map iV),iV 0]) (by simp[ca,eS,bp]) (by simp[eY,lj,nt]) Rr rfl (ba _ _ L) C2 ?_;exact fq
   |some r2=>
    obtain⟨u2,l2,i2⟩:=zk j4 om h6 iP (c:=0) om hr2;have m2:=u2.l;simp only[hr2,Option.bind_some]at h2;rw[hr2]at C2;refine cI ?_;simp only[vq,seval,tw,tP];refine bF 0 (vals0:=[.aY 8 0 1 0 0,.agg (w.map iV),.agg (P.map iV),iV 0]) (v0:=.agg (r2.1.map iV)) (es':=bl r2.2) (by simp[ca,eS,bp]) (by simp[eY,lj,nt]) Rr rfl (ba _ _ L) (ba _ _ r2.2) rfl C2 ?_;have hr:r2.1.length=16:=om;have hrl:=dy hr;simp only[vq,seval,ca,hrl];refine⟨cb _,?_⟩;refine bL (k+1,r2.1,r2.2) (by simp only;omega) (bz 5 om (by simp[h5,hr]) rfl ⟨Pv _ _,OP _ _,OP _ _,OP _ _,OP _ _,trivial⟩ ?_) ⟨by simp only;omega,h2,u2.g,by simp only;omega,hr,i2⟩;simp only[vq,seval];rw[a8 om om]
    try trivial
 ·simp only[ak]at hc;obtain rfl:k=16:=om;rw[aR om,ue]at h2;rw[h2];simp only[vq,seval];rw[tw,xQ h5 rfl];exact⟨lw,cb _,cG (h:=3) om h5 rfl rfl rfl⟩
end
section
variable[BE][NB]
theorem t109{N:Gr}(G:ct N){x y:List Nat}(hx:x.length=16)(hy:y.length=16)(hxN:cU N x)(hyN:cU N y)(g:FuncId)(op:Gr->Nat->Nat->Option (Nat×Gr)) (hop:∀{M:Gr} {a b:Nat},ct M->a<M.length->b<M.length->ff g [.aY 8 0 1 0 0,iV a,iV b] M (vI (op M a b))) (hok:∀{M:Gr} {a b:Nat} {r:Nat×Gr},ct M->a<M.length->b<M.length->op M a b=some r->vA M r.2/\r.1<r.2.length):ff 109 [.agg (x.map iV),.agg (y.map iV),.fn (.func g) [.aY 8 0 1 0 0] []] N (vW (km op x y N)):=by
 have hmL:=dx;refine gb cc109 (AC.at AC.pn [1,0,1,2,2,1,1,0,2,1] ac109) rfl ?_;simp only[vq,seval,ac109,AC.at];refine⟨hx,cb _,hy,cb _,?_⟩;refine bb (fun t:Nat×List Nat×Gr=>⟨cC 23 [(2,.fn (.func g) [.aY 8 0 1 0 0] []),(3,.aY 16 1 1 0 0),(4,.aY 16 2 1 0 0),(6,.aY 16 3 1 0 0),(8,.d (.int .i64 t.1))],[.live 8 (bl t.2.2),jJ (t.2.1++x.drop t.1),jJ y,jJ (List.replicate 16 0)]⟩) (fun t=>t.1<=16/\t.2.1.length=t.1/\km op x y N=(km op (x.drop t.1) (y.drop t.1) t.2.2).map (fun s=>(t.2.1++s.1,s.2))/\ct t.2.2/\N.length<=t.2.2.length) (fun t=>16-t.1) (0,[],N) (bk (by first|rfl|simp) vt) ⟨om,rfl,sm,G,aq _⟩ ?_;rintro⟨i,o,M⟩ ⟨h1,h0,h2,h3,h4⟩;dsimp only at h1 h0 h2 h3 h4;simp only[vq,seval];refine aZ (fun hc=>?_) (fun hc=>?_)
 ·simp only[aj]at hc;obtain⟨a,ha⟩:=bh (l:=x) (i:=i) om;obtain⟨b,hb⟩:=bh (l:=y) (i:=i) om;have ham:=hxN a (af ha);have hbm:=hyN b (af hb);have hL:(o++x.drop i).length=16:=by simp;omega
  have haL:(o++x.drop i)[i]? =some a:=by rw[aJ om,h0,Nat.sub_self,List.getElem?_drop];exact ha
  have hset:∀v,(o++x.drop i).set i v=(o++[v])++x.drop (i+1):=fun v=>by rw[bt ha,dA _ _ _ _ h0];simp
  rw[bt ha,bt hb,km]at h2;generalize o++x.drop i=L at hL haL hset|-;obtain⟨q0,q1,q2⟩:=qj (i:=i) om;have ga:=cK (fQ haL);have gb:=cK (fQ hb);have C1:=hop h3 (a:=a) (b:=b) om om;simp only[vq,seval];cases hr1:op M a b with
  |none=>
   simp only[hr1,Option.bind_none,Option.map_none]at h2;rw[hr1]at C1;rw[h2];refine cv 8 rfl ?_;simp only[vq,seval,q0,q1,q2,ga,gb]
   repeat(refine dC rfl rfl ?_;simp only[vq,seval,q0,q1,q2,ga,gb])
   refine b9 0 (vals0:=[.aY 8 0 1 0 0,iV a,iV b]) rfl rfl Rr rfl (ba _ _ M) C1 ?_;exact fq
  |some r1=>
   obtain⟨u1,l1⟩:=hok h3 (a:=a) (b:=b) om om hr1;have m1:=u1.l;simp only[hr1,Option.bind_some]at h2;rw[hr1]at C1;refine dj ?_;refine bW ?_;simp only[vq,seval,bp,q0,q1,q2,ga,gb]
   repeat(refine cc rfl rfl ?_;simp only[vq,seval,bp,q0,q1,q2,ga,gb])
   refine bF 0 (vals0:=[.aY 8 0 1 0 0,iV a,iV b]) (v0:=iV r1.1) (es':=bl r1.2) rfl rfl Rr rfl (ba _ _ M) (ba _ _ r1.2) rfl C1 ?_
   repeat(refine cc rfl rfl ?_;simp only[vq,seval,bp,q0,q1,q2,ga,gb])
   rw[kf om,hset];refine bL (i+1,o++[r1.1],r1.2) (by simp only;omega) (bk rfl ?_) ⟨by simp only;omega,by simp[h0],by simp only;rw[h2];simp[Option.map_map,Function.comp_def],u1.g,by simp only;omega⟩;simp only[vq,seval];rw[a8 om om]
   try trivial
 ·simp only[ak]at hc;obtain rfl:i=16:=om;rw[aR om]at h2|-;have e0:km op [] (y.drop 16) M=some ([],M):=by rw[km];intro _ _ _ _ h;cases h
  rw[h2,e0,List.append_nil];simp only[vq,seval];rw[fm h0,xQ h0 rfl];exact⟨dy h0,cb _,cG (h:=3) om h0 rfl rfl rfl⟩
abbrev BX:bd:=.live 1 [[.aY 8 0 1 0 0]]
abbrev MA(t:Nat):bd:=.live 1 [[iV t]]
theorem t110[bf]{M:Gr}(G:ct M){t a b:Nat}(ht:t<M.length)(ha:a<M.length)(hb:b<M.length){r:Nat×Gr}(hr:np M t a b=some r)(A B C:bd)(F:Go.Vx.Rows):dn Tryz.prog 110 [iV a,iV b,.aY 1 1 1 0 0,.aY 1 5 1 0 0] (.live 8 (bl M)::BX::A::B::C::MA t::F) (fun v R=>v=iV r.1/\R=.live 8 (bl r.2)::BX::A::B::C::MA t::F):=by have C1:=t111 G ht ha hb;rw[hr]at C1;refine cc110.gi ac110 rfl ?_;simp only[vq,seval,ac110];refine bF 0 (vals0:=[.aY 8 0 1 0 0,iV t,iV a,iV b]) (v0:=iV r.1) (es':=bl r.2) rfl rfl Rr rfl (ba _ _ M) (ba _ _ r.2) rfl C1 ?_;simp only[vq,seval,bp]
theorem Cz[bf]{rs:List RS}{K:V->Go.Vx.Rows->Prop}{Kp:List PanicEntry->Go.Vx.Rows->Prop}{fr:List V}{rows:Go.Vx.Rows}:Bv rs K Kp .ret ⟨fr,rows⟩=qu rs [] fr rows K:=by rw[<-zy Tryz.prog];rfl
theorem OZ[bf]{M:Gr}(G:ct M){t a b:Nat}(ht:t<M.length)(ha:a<M.length)(hb:b<M.length)(hr:np M t a b=none)(A B C:bd)(F:Go.Vx.Rows):kS Tryz.prog 110 [iV a,iV b,.aY 1 1 1 0 0,.aY 1 5 1 0 0] (.live 8 (bl M)::BX::A::B::C::MA t::F) (fun _ _=>False) (fun ch R=>ch=rn/\R=.dead::BX::A::B::C::MA t::F):=by have C1:=t111 G ht ha hb;rw[hr]at C1;refine cc110.gx (AC.at AC.pn [1,0] ac110) rfl ?_;simp only[vq,seval,ac110,AC.at];refine cr 4 rfl ?_;simp only[vq,seval];refine b9 0 (vals0:=[.aY 8 0 1 0 0,iV t,iV a,iV b]) rfl rfl Rr rfl (ba _ _ M) C1 ?_;simp only[vq,seval]
theorem tM[bf]{P:Program}{f:FuncId}{vals:List V}{rows:Go.Vx.Rows}{K K':V->Go.Vx.Rows->Prop}{Kp Kp':List PanicEntry->Go.Vx.Rows->Prop}(h:kS P f vals rows K Kp)(hk:∀v R,K v R->K' v R)(hp:∀ch R,Kp ch R->Kp' ch R):kS P f vals rows K' Kp':=⟨h.1,fun c args ok hG hr ha=>(h.2 c args ok hG hr ha).mono fun e w' hh=>by
  rcases hh with⟨u,c',v,e1,e2,e3,e4,e5,e6⟩|⟨ch,c',e1,e2,e3,e4,e5⟩
  ·exact .inl ⟨u,c',v,e1,e2,e3,e4,e5,hk _ _ e6⟩
  ·exact .inr ⟨ch,c',e1,e2,e3,e4,hp _ _ e5⟩⟩
theorem N3[bf]{N:Gr}(G:ct N){x y:List Nat}(hx:x.length=16)(hy:y.length=16)(hxN:cU N x)(hyN:cU N y){t:Nat}(ht:t<N.length)(A B C:bd):kS Tryz.prog 109 [.agg (x.map iV),.agg (y.map iV),.fn (.func 110) [] [.aY 1 1 1 0 0,.aY 1 5 1 0 0]] [.live 8 (bl N),BX,A,B,C,MA t] (fun v R=>∃o N',km (fun N f g=>np N t f g) x y N=some (o,N')/\o.length=16/\v=.agg (o.map iV)/\R=[.live 8 (bl N'),BX,A,B,C,MA t,jJ o,jJ y,jJ o]) (fun ch R=>km (fun N f g=>np N t f g) x y N=none/\ch=rn):=by
 have hmL:=dx;obtain⟨op,hop⟩:∃op:Gr->Nat->Nat->Option (Nat×Gr),op=(fun N f g=>np N t f g):=⟨_,rfl⟩;rw[<-hop];refine cc109.gx (AC.at AC.pn [1,0,1,2,2,1,1,0,2,1] ac109) rfl ?_;simp only[vq,seval,ac109,AC.at];refine⟨hx,cb _,hy,cb _,?_⟩;refine bb (fun s:Nat×List Nat×Gr=>⟨cC 23 [(2,.fn (.func 110) [] [.aY 1 1 1 0 0,.aY 1 5 1 0 0]),(3,.aY 16 6 1 0 0),(4,.aY 16 7 1 0 0),(6,.aY 16 8 1 0 0),(8,.d (.int .i64 s.1))],[.live 8 (bl s.2.2),BX,A,B,C,MA t,jJ (s.2.1++x.drop s.1),jJ y,jJ (List.replicate 16 0)]⟩) (fun s=>s.1<=16/\s.2.1.length=s.1/\km op x y N=(km op (x.drop s.1) (y.drop s.1) s.2.2).map (fun r=>(s.2.1++r.1,r.2))/\ct s.2.2/\N.length<=s.2.2.length) (fun s=>16-s.1) (0,[],N) (bk (by first|rfl|simp) vt) ⟨om,rfl,sm,G,aq _⟩ ?_;rintro⟨i,o,M⟩ ⟨h1,h0,h2,h3,h4⟩;dsimp only at h1 h0 h2 h3 h4;simp only[vq,seval];refine aZ (fun hc=>?_) (fun hc=>?_)
 ·simp only[aj]at hc;obtain⟨a,ha⟩:=bh (l:=x) (i:=i) om;obtain⟨b,hb⟩:=bh (l:=y) (i:=i) om;have ham:=hxN a (af ha);have hbm:=hyN b (af hb);have hL:(o++x.drop i).length=16:=by simp;omega
  have haL:(o++x.drop i)[i]? =some a:=by rw[aJ om,h0,Nat.sub_self,List.getElem?_drop];exact ha
  have hset:∀v,(o++x.drop i).set i v=(o++[v])++x.drop (i+1):=fun v=>by rw[bt ha,dA _ _ _ _ h0];simp
  rw[bt ha,bt hb,km]at h2;generalize o++x.drop i=L at hL haL hset|-;obtain⟨q0,q1,q2⟩:=qj (i:=i) om;have ga:=cK (fQ haL);have gb:=cK (fQ hb);simp only[vq,seval];have hoM:op M a b=np M t a b:=by rw[hop]
  cases hr1:np M t a b with
  |none=>
   simp only[hoM,hr1,Option.bind_none,Option.map_none]at h2;refine cv 8 rfl ?_;simp only[vq,seval,q0,q1,q2,ga,gb]
   repeat(refine dC rfl rfl ?_;simp only[vq,seval,q0,q1,q2,ga,gb])
   refine MO (ups:=[(0,.dead)]) (ch:=rn) sm Rr (OZ h3 om om om hr1 _ _ _ _) ?_;exact AN rfl (fun S'=>⟨h2,rfl⟩)
  |some r1=>
   obtain⟨u1,l1⟩:=Kt h3 (f:=t) (g:=a) (k:=b) om om om hr1;have m1:=u1.l;simp only[hoM,hr1,Option.bind_some]at h2;refine dj ?_;refine bW ?_;simp only[vq,seval,bp,q0,q1,q2,ga,gb]
   repeat(refine cc rfl rfl ?_;simp only[vq,seval,bp,q0,q1,q2,ga,gb])
   refine fO (v:=iV r1.1) (ups:=[(0,.live 8 (bl r1.2))]) sm rfl Rr (t110 h3 om om om hr1 _ _ _ _) ?_
   repeat(refine cc rfl rfl ?_;simp only[vq,seval,bp,q0,q1,q2,ga,gb])
   rw[kf om,hset];refine bL (i+1,o++[r1.1],r1.2) (by simp only;omega) (bk rfl ?_) ⟨by simp only;omega,by simp[h0],by simp only;rw[h2];simp[Option.map_map,Function.comp_def],u1.g,by simp only;omega⟩;simp only[vq,seval];rw[a8 om om]
   try trivial
 ·simp only[ak]at hc;obtain rfl:i=16:=om;rw[aR om]at h2|-;have e0:km op [] (y.drop 16) M=some ([],M):=by rw[km];intro _ _ _ _ h;cases h
  rw[e0]at h2;simp only[Option.map_some,List.append_nil]at h2|-;simp only[vq,seval];rw[fm h0,xQ h0 rfl];refine⟨dy h0,cb _,?_⟩;rw[Cz];simp only[vq,seval,qu,yX];have tk:=fm h0;have ln:=dy h0;exact⟨o,M,h2,h0,by simp[tk,ln],by simp[h0]⟩
end
section
variable[BE][NB]
theorem Ky{x:List Nat}(hx:x.length=16)(left:Bool){s i:Nat}(hs:s<16)(hi:i<16):(wy x left s)[i]? =some (if left=true then(if s<=i then x[i-s]? else none)else x[i+s]?):=by
 unfold wy;cases left with
 |true=>
  simp only[if_true];by_cases h:s<=i
  ·rw[if_pos h,aJ so,List.length_replicate,ar,List.getElem?_take,if_pos om,ae om];rfl
  ·rw[if_neg h,aH so,List.getElem?_replicate,if_pos om]
 |false=>
  simp only[Bool.false_eq_true,if_false];by_cases h:i+s<16
  ·rw[aH so,ar,List.getElem?_drop,Nat.add_comm s i,ae om];rfl
  ·rw[aA (l:=x) om,aJ so,List.getElem?_replicate,if_pos so]
theorem EG(fs:List (Option Nat))(t:Nat)(N:Gr):nN [] fs t N=some ([],N):=by
 rw[nN]
 ·intro _ _ _ _ h;cases h
 ·intro _ _ _ h;cases h
def fP(left:Bool):Int:=if left=true then 1 else-1
theorem t166{N:Gr}(G:ct N){x y:List Nat}(hx:x.length=16)(hy:y.length=16)(hxN:cU N x)(hyN:cU N y)(left:Bool):ff 166 [.aY 8 0 1 0 0,.agg (x.map iV),.agg (y.map iV),.d (.int .i64 (fP left))] N (vW (EL x y left N)):=by
 have hmL:=dx;have C0:=t101 0 om;have tx:=fm hx;have ty:=fm hy;have hdir:fP left=1/\left=true\/fP left= -1/\left=false:=by cases left<;>simp[fP]
 generalize hdd:fP left=d at hdir|-;refine gb cc166 (AC.at AC.pn [1,1,0,1,2,2,1,1,0,2,1,1,1,2,2,1,1,0,2,1,1,1,0] (AC.at AC.pn [1,1,0,1,2,2,1,1,0,2,1,0] ac166)) rfl ?_;simp only[vq,seval,ac166,AC.at];refine⟨hx,cb _,hy,cb _,?_⟩;refine aW rfl C0 ?_;have hl0:=hV 0;have tl0:=dy hl0;simp only[vq,seval,tl0];refine⟨cb _,?_⟩;refine bb (fun t:Nat×List Nat×Gr=>⟨cC 53 [(0,.aY 8 0 1 0 0),(3,.d (.int .i64 d)),(5,.aY 16 1 1 0 0),(6,.aY 16 2 1 0 0),(8,.aY 16 3 1 0 0),(9,.aY 16 4 1 0 0),(15,.d (.int .i64 t.1))],[.live 8 (bl t.2.2),jJ x,jJ y,jJ (List.replicate 16 0),jJ t.2.1]⟩) (fun t=>t.1<=16/\EL x y left N=yI x y left (16-t.1) t.1 t.2.1 t.2.2/\ct t.2.2/\N.length<=t.2.2.length/\t.2.1.length=16/\cU t.2.2 t.2.1) (fun t=>16-t.1) (0,dS 0,N) (bk (by first|rfl|simp) vt) ⟨om,rfl,G,aq _,hl0,mH G 0⟩ ?_;rintro⟨s,w,M⟩ ⟨h1,h2,h3,h4,h5,h6⟩;dsimp only at h1 h2 h3 h4 h5 h6;simp only[vq,seval];have tw:=fm h5;have lw:=dy h5;refine aZ (fun hc=>?_) (fun hc=>?_)
 ·simp only[aj]at hc;have h2M:=h3.two;rw[show 16-s=(15-s)+1 by omega,yI]at h2;have hS:(wy x left s).length=16:=(D0 (hxN.hw (N:=N)) hx left om).2;have hsa:=fun(i:Nat) (hi:i<16)=>Ky hx left (s:=s) (i:=i) om hi;generalize wy x left s=S at h2 hS hsa;simp only[vq,seval];have Cc:=t101 s om;have C1:=t208 h3 hy (hV s) (hyN.app h4) (mH h3 s);cases hr1:mv y (dS s) 1 M with
  |none=>
   simp only[hr1,Option.bind_none]at h2;rw[hr1]at C1;rw[h2];refine cv 4 rfl ?_;simp only[vq,seval,ty]
   repeat(refine dC rfl rfl ?_;simp only[vq,seval,ty])
   refine aW rfl Cc ?_
   repeat(refine dC rfl rfl ?_;simp only[vq,seval,ty])
   refine b9 0 (vals0:=[.aY 8 0 1 0 0,.agg (y.map iV),.agg ((dS s).map iV)]) (by simp[ca,eS,bp]) (by simp[eY,lj,nt]) Rr rfl (ba _ _ M) C1 ?_;exact fq
  |some r1=>
   obtain⟨u1,l1⟩:=xZ h3 (hy.trans (hV s).symm) (hyN.app h4) (mH h3 s) om hr1;have m1:=u1.l;simp only[hr1,Option.bind_some]at h2;rw[hr1]at C1;refine dj ?_;refine bW ?_;simp only[vq,seval,ty]
   repeat(refine cc rfl rfl ?_;simp only[vq,seval,ty])
   refine aW rfl Cc ?_
   repeat(refine cc rfl rfl ?_;simp only[vq,seval,ty])
   refine bF 0 (vals0:=[.aY 8 0 1 0 0,.agg (y.map iV),.agg ((dS s).map iV)]) (v0:=iV r1.1) (es':=bl r1.2) (by simp[ca,eS,bp]) (by simp[eY,lj,nt]) Rr rfl (ba _ _ M) (ba _ _ r1.2) rfl C1 ?_
   repeat(refine cc rfl rfl ?_;simp only[vq,seval,bp,ty])
   refine bb (fun t:Nat×List Nat×Gr=>⟨cC 53 [(0,.aY 8 0 1 0 0),(3,.d (.int .i64 d)),(5,.aY 16 1 1 0 0),(6,.aY 16 2 1 0 0),(8,.aY 16 3 1 0 0),(9,.aY 16 4 1 0 0),(10,.d (.int .i64 s)),(11,iV r1.1),(15,.d (.int .i64 s)),(23,.d (.int .i64 t.1))],[.live 8 (bl t.2.2),jJ x,jJ y,jJ (List.replicate 16 0),jJ (t.2.1++w.drop t.1)]⟩) (fun t=>t.1<=16/\t.2.1.length=t.1/\nN w S r1.1 r1.2=(nN (w.drop t.1) (S.drop t.1) r1.1 t.2.2).map (fun r=>(t.2.1++r.1,r.2))/\ct t.2.2/\r1.2.length<=t.2.2.length/\cU t.2.2 t.2.1) (fun t=>16-t.1) (0,[],r1.2) (bk (by first|rfl|simp) vt) ⟨om,rfl,sm,u1.g,aq _,fun f hf=>by cases hf⟩ ?_;rintro⟨i,o,L⟩ ⟨j1,j2,j3,j4,j5,j6⟩;dsimp only at j1 j2 j3 j4 j5 j6;simp only[vq,seval];refine aZ (fun hd=>?_) (fun hd=>?_)
   ·simp only[aj]at hd;obtain⟨a,ha⟩:=bh (l:=w) (i:=i) om;have ham:=h6 a (af ha);obtain⟨s0,s1,s2⟩:=qj (i:=i) om;have hwL:(o++w.drop i).length=16:=by simp;omega
    have haL:(o++w.drop i)[i]? =some a:=by rw[aJ om,j2,Nat.sub_self,List.getElem?_drop];exact ha
    have ga:=cK (fQ haL);have hset:∀v,(o++w.drop i).set i v=(o++[v])++w.drop (i+1):=fun v=>by rw[bt ha,dA _ _ _ _ j2];simp
    have hskip:o++w.drop i=(o++[a])++w.drop (i+1):=by rw[bt ha];simp
    have hsi:=hsa i om;rw[bt ha,bt hsi]at j3;generalize o++w.drop i=P at hwL haL ga hset hskip|-;have hw1:IntKind.i64.wrap (d*(s:Int))=d*s:=by rcases hdir with⟨rfl,_⟩|⟨rfl,_⟩<;>rw[a8 om om]
    have hw2:IntKind.i64.wrap ((i:Int)-d*s)=i-d*s:=by rcases hdir with⟨rfl,_⟩|⟨rfl,_⟩<;>rw[a8 om om]
    have hfr:(if left=true then(if s<=i then x[i-s]? else none)else x[i+s]?)=if 0<=(i:Int)-d*s/\(i:Int)-d*s<16 then x[((i:Int)-d*s).toNat]? else none:=by
     rcases hdir with⟨rfl,rfl⟩|⟨rfl,rfl⟩
     ·rw[if_pos rfl];by_cases h:s<=i
      ·rw[if_pos h,if_pos om];congr 1;omega
      ·rw[if_neg h,if_neg om]
     ·rw[if_neg dc];by_cases h:i+s<16
      ·rw[if_pos om];congr 1;omega
      ·rw[aA om,if_neg om]
    rw[hfr]at j3;simp only[vq,seval,hw1,hw2];generalize (i:Int)-d*s=F at j3|-;have none_case:¬(0<=F/\F<16)->nN w S r1.1 r1.2=(nN (w.drop (i+1)) (S.drop (i+1)) r1.1 L).map (fun r=>((o++[a])++r.1,r.2)):=fun h=>by rw[j3,if_neg h,nN];simp[Option.map_map,Function.comp_def]
    by_cases c1:0<=F
    ·simp only[vq,seval,dt c1];by_cases c2:F<16
     ·simp only[vq,seval,dt c2];rw[if_pos ⟨c1,c2⟩]at j3;obtain⟨k,rfl⟩:=Int.eq_ofNat_of_zero_le c1;obtain⟨b,hb⟩:=bh (l:=x) (i:=k) om;have hbm:=hxN b (af hb);have gb:=cK (fQ hb);obtain⟨p0,p1,p2⟩:=qj (i:=k) om;rw[Int.toNat_natCast,hb,nN]at j3;have C3:=t162 j4 (f:=r1.1) (g:=b) om om;cases hr3:gF L r1.1 b with
      |none=>
       simp only[Option.bind_some,hr3,Option.bind_none,Option.map_none]at j3;rw[hr3]at C3;simp only[j3,Option.bind_none]at h2;rw[h2];refine cv 10 rfl ?_;simp only[vq,seval,bp,s0,s1,s2,p0,p1,p2,ga,gb]
       repeat(refine dC rfl rfl ?_;simp only[vq,seval,bp,s0,s1,s2,p0,p1,p2,ga,gb])
       refine b9 0 (vals0:=[.aY 8 0 1 0 0,iV r1.1,iV b]) rfl rfl Rr rfl (ba _ _ L) C3 ?_;exact fq
      |some r3=>
       obtain⟨u3,l3⟩:=jA j4 (f:=r1.1) (g:=b) om om hr3;have m3:=u3.l;simp only[Option.bind_some,hr3]at j3;rw[hr3]at C3;have C4:=t100 u3.g (f:=a) (g:=r3.1) om om;cases hr4:qz r3.2 a r3.1 with
       |none=>
        simp only[Option.bind_some,hr4,Option.bind_none,Option.map_none]at j3;rw[hr4]at C4;simp only[j3,Option.bind_none]at h2;rw[h2];refine cv 11 rfl ?_;simp only[vq,seval,bp,s0,s1,s2,p0,p1,p2,ga,gb]
        repeat(refine dC rfl rfl ?_;simp only[vq,seval,bp,s0,s1,s2,p0,p1,p2,ga,gb])
        refine bF 0 (vals0:=[.aY 8 0 1 0 0,iV r1.1,iV b]) (v0:=iV r3.1) (es':=bl r3.2) rfl rfl Rr rfl (ba _ _ L) (ba _ _ r3.2) rfl C3 ?_
        repeat(refine dC rfl rfl ?_;simp only[vq,seval,bp,s0,s1,s2,p0,p1,p2,ga,gb])
        refine b9 0 (vals0:=[.aY 8 0 1 0 0,iV a,iV r3.1]) rfl rfl Rr rfl (ba _ _ r3.2) C4 ?_;exact fq
       |some r4=>
        obtain⟨u4,l4⟩:=pR u3.g (f:=a) (g:=r3.1) om om hr4;have m4:=u4.l;simp only[Option.bind_some,hr4]at j3;rw[hr4]at C4;refine dj ?_;refine bW ?_;simp only[vq,seval,bp,s0,s1,s2,p0,p1,p2,ga,gb]
        repeat(refine cc rfl rfl ?_;simp only[vq,seval,bp,s0,s1,s2,p0,p1,p2,ga,gb])
        refine bF 0 (vals0:=[.aY 8 0 1 0 0,iV r1.1,iV b]) (v0:=iV r3.1) (es':=bl r3.2) rfl rfl Rr rfl (ba _ _ L) (ba _ _ r3.2) rfl C3 ?_
        repeat(refine cc rfl rfl ?_;simp only[vq,seval,bp,s0,s1,s2,p0,p1,p2,ga,gb])
        refine bF 0 (vals0:=[.aY 8 0 1 0 0,iV a,iV r3.1]) (v0:=iV r4.1) (es':=bl r4.2) rfl rfl Rr rfl (ba _ _ r3.2) (ba _ _ r4.2) rfl C4 ?_
        repeat(refine cc rfl rfl ?_;simp only[vq,seval,bp,s0,s1,s2,p0,p1,p2,ga,gb])
        rw[kf om,hset];refine bL (i+1,o++[r4.1],r4.2) (by simp only;omega) (bk rfl ?_) ⟨by simp only;omega,by simp[j2],by simp only;rw[j3];simp[Option.map_map,Function.comp_def],u4.g,by simp only;omega,((j6.app m3).app m4).cat fun f hf=>by simp at hf;subst hf;exact l4⟩;simp only[vq,seval];rw[a8 om om]
        try trivial
     ·simp only[vq,seval,df c2];rw[hskip];refine bL (i+1,o++[a],L) (by simp only;omega) (bk rfl ?_) ⟨by simp only;omega,by simp[j2],none_case om,j4,j5,j6.cat fun f hf=>by simp at hf;subst hf;omega⟩;simp only[vq,seval];rw[a8 om om]
      try trivial
    ·simp only[vq,seval,df c1];rw[hskip];refine bL (i+1,o++[a],L) (by simp only;omega) (bk rfl ?_) ⟨by simp only;omega,by simp[j2],none_case om,j4,j5,j6.cat fun f hf=>by simp at hf;subst hf;omega⟩;simp only[vq,seval];rw[a8 om om]
     try trivial
   ·simp only[ak]at hd;obtain rfl:i=16:=om;rw[aR om]at j3;rw[EG]at j3;simp only[Option.map_some,List.append_nil]at j3;simp only[j3,Option.bind_some]at h2;rw[aR om,List.append_nil];simp only[vq,seval];refine bL (s+1,o,L) (by simp only;omega) (bk rfl ?_) ⟨by simp only;omega,by simp only;rw[h2,show 16-(s+1)=15-s by omega],j4,by simp only;omega,j2,j6⟩;simp only[vq,seval];rw[a8 om om]
    try trivial
 ·simp only[ak]at hc;obtain rfl:s=16:=om;rw[Nat.sub_self,yI]at h2;rw[h2];simp only[vq,seval];rw[tw,xQ h5 rfl];exact⟨lw,cb _,cG (h:=3) om h5 rfl rfl rfl⟩
end
section
variable[BE][NB]
abbrev Pj(l:List (List Nat)):bd:=.live 16 (l.map (·.map iV))
theorem kQ{l:List (List Nat)}{i:Nat}{w:List Nat}(h:l[i]? =some w):(l.map (·.map iV))[i]? =some (w.map iV):=by rw[ar,h];rfl
def Fh(N:Gr)(l:List (List Nat)):Prop:=∀w∈l,w.length=16/\cU N w
theorem Fh.app{N N':Gr}{l:List (List Nat)}(h:Fh N l)(hl:N.length<=N'.length):Fh N' l:=fun w hw=>⟨(h w hw).1,(h w hw).2.app hl⟩
theorem Nh[bf]{N:Gr}(G:ct N){x:List Nat}(hx:x.length=16)(hxN:cU N x){L l:List (List Nat)}(hL:L.drop 1=l)(hLl:L.length=l.length+1)(hl:l.length<=4294967296)(hlN:Fh N l)(A B:bd):kS Tryz.prog 108 [.aY 8 0 1 0 0,.agg (x.map iV),.cl 16 4 (l.length+1) 1 l.length] [.live 8 (bl N),BX,A,B,Pj L] (fun v R=>∃t N',oy x l 0 N=some (t,N')/\v=iV t/\R=[.live 8 (bl N'),BX,A,B,Pj L,jJ x]) (fun ch R=>oy x l 0 N=none/\ch=rn):=by
 have hmL:=dx;have tx:=fm hx;have h2N:=G.two;refine cc108.gx (AC.at AC.pn [1,1,0,1,2,2,1,0,2,1,1] (AC.at AC.pn [1,1,0,1,2,2,1,0,2,1,0] (AC.at AC.pn [1,1,0,1,2,2,1,0,2,0] ac108))) rfl ?_;simp only[vq,seval,ac108,AC.at];refine⟨hx,cb _,?_⟩;refine bb (fun s:Nat×Nat×Gr=>⟨cC 45 [(0,.aY 8 0 1 0 0),(2,.cl 16 4 (l.length+1) 1 l.length),(4,.aY 16 5 1 0 0),(7,iV s.2.1),(8,.d (.int .i64 s.1))],[.live 8 (bl s.2.2),BX,A,B,Pj L,jJ x]⟩) (fun s=>s.1<=l.length+1/\oy x l 0 N=oy x (l.drop s.1) s.2.1 s.2.2/\ct s.2.2/\N.length<=s.2.2.length/\s.2.1<s.2.2.length) (fun s=>l.length+1-s.1) (0,0,N) (bk (by first|rfl|simp) vt) ⟨om,sm,G,aq _,by simp only;omega⟩ ?_;rintro⟨i,t,M⟩ ⟨h1,h2,h3,h4,h5⟩;dsimp only at h1 h2 h3 h4 h5;simp only[vq,seval];rw[a8 om om];refine⟨hLl,?_⟩;refine aZ (fun hc=>?_) (fun hc=>?_)
 ·simp only[aj]at hc;obtain⟨a,ha⟩:=bh (l:=l) (i:=i) om;obtain⟨b,hb⟩:=bh (l:=l) (i:=i+1) om;obtain⟨la,ia⟩:=(hlN.app h4) a (af ha);obtain⟨lb,ib⟩:=(hlN.app h4) b (af hb);have hxM:=hxN.app h4;have h2M:=h3.two;have ga:=cK (kQ (l:=L) (i:=1+i) (by rw[<-List.getElem?_drop,hL];exact ha));have gb:=cK (kQ (l:=L) (i:=1+(i+1)) (by rw[<-List.getElem?_drop,hL];exact hb));have hW:(L.map (·.map iV)).length=l.length+1:=by simp[hLl]
  have ta:=fm la;have tb:=fm lb;have ka:=dy la;have kb:=dy lb;have e1:IntKind.i64.wrap ((i:Int)+1)=((i+1:Nat):Int):=by rw[a8 om om];rfl
  have e2:IntKind.i64.wrap ((i:Int)+2)=((i+2:Nat):Int):=by rw[a8 om om];rfl
  have q0:((0:Int)<=(i:Nat))=True:=eq_true om;have q1:(((i:Nat):Int)<(l.length:Int))=True:=eq_true om;have q2:((0:Int)<=((i+1:Nat):Int))=True:=eq_true om;have q3:(((i+1:Nat):Int)<(l.length:Int))=True:=eq_true om;rw[bt ha,bt hb,oy]at h2;have C1:=t161 h3 hx la hxM ia;simp only[vq,seval];cases hr1:lN x a 0 M with
  |none=>
   simp only[Option.bind_some,hr1,Option.bind_none]at h2;rw[hr1]at C1;refine cv 7 rfl ?_;simp only[vq,seval,bp,tx,ta,ka,hW,hLl,q0,q1,ga]
   repeat(refine dC rfl rfl ?_;simp only[vq,seval,bp,tx,ta,ka,hW,hLl,q0,q1,ga])
   refine b9 0 (vals0:=[.aY 8 0 1 0 0,.agg (x.map iV),.agg (a.map iV)]) (by simp[ca,eS,bp]) (by simp[eY,lj,nt]) Rr rfl (ba _ _ M) C1 ?_;exact AN rfl (fun S'=>⟨h2,rfl⟩)
  |some r1=>
   obtain⟨u1,l1⟩:=tZ h3 om hxM ia om hr1;have m1:=u1.l;simp only[Option.bind_some,hr1]at h2;rw[hr1]at C1;have C2:=t104 u1.g (f:=r1.1) om;cases hr2:gY r1.2 r1.1 with
   |none=>
    simp only[Option.bind_some,hr2,Option.bind_none]at h2;rw[hr2]at C2;refine cv 8 rfl ?_;simp only[vq,seval,bp,tx,ta,ka,hW,hLl,q0,q1,ga]
    repeat(refine dC rfl rfl ?_;simp only[vq,seval,bp,tx,ta,ka,hW,hLl,q0,q1,ga])
    refine bF 0 (vals0:=[.aY 8 0 1 0 0,.agg (x.map iV),.agg (a.map iV)]) (v0:=iV r1.1) (es':=bl r1.2) (by simp[ca,eS,bp]) (by simp[eY,lj,nt]) Rr rfl (ba _ _ M) (ba _ _ r1.2) rfl C1 ?_
    repeat(refine dC rfl rfl ?_;simp only[vq,seval,bp,tx,ta,ka,hW,hLl,q0,q1,ga])
    refine b9 0 (vals0:=[.aY 8 0 1 0 0,iV r1.1]) (by simp[ca,eS,bp]) (by simp[eY,lj,nt]) Rr rfl (ba _ _ r1.2) C2 ?_;exact AN rfl (fun S'=>⟨h2,rfl⟩)
   |some r2=>
    obtain⟨u2,l2⟩:=kl u1.g (f:=r1.1) om hr2;have m2:=u2.l;simp only[Option.bind_some,hr2]at h2;rw[hr2]at C2;refine dj ?_;refine bW ?_;simp only[vq,seval,bp,tx,ta,ka,hW,hLl,q0,q1,ga]
    repeat(refine cc rfl rfl ?_;simp only[vq,seval,bp,tx,ta,ka,hW,hLl,q0,q1,ga])
    refine bF 0 (vals0:=[.aY 8 0 1 0 0,.agg (x.map iV),.agg (a.map iV)]) (v0:=iV r1.1) (es':=bl r1.2) (by simp[ca,eS,bp]) (by simp[eY,lj,nt]) Rr rfl (ba _ _ M) (ba _ _ r1.2) rfl C1 ?_
    repeat(refine cc rfl rfl ?_;simp only[vq,seval,bp,tx,ta,ka,hW,hLl,q0,q1,ga])
    refine bF 0 (vals0:=[.aY 8 0 1 0 0,iV r1.1]) (v0:=iV r2.1) (es':=bl r2.2) (by simp[ca,eS,bp]) (by simp[eY,lj,nt]) Rr rfl (ba _ _ r1.2) (ba _ _ r2.2) rfl C2 ?_
    repeat(refine cc rfl rfl ?_;simp only[vq,seval,bp,tx,ta,ka,hW,hLl,q0,q1,ga])
    have C3:=t161 (N:=r2.2) u2.g lb hx (ib.app om) (hxM.app om);have C3:=t161 (N:=r2.2) u2.g lb hx (ib.app om) (hxM.app om);cases hr3:lN b x 0 r2.2 with
    |none=>
     simp only[Option.bind_some,hr3,Option.bind_none]at h2;rw[hr3]at C3;refine cv 8 rfl ?_;simp only[vq,seval,bp,tx,tb,kb,hW,hLl,q2,q3,e1,gb]
     repeat(refine dC rfl rfl ?_;simp only[vq,seval,bp,tx,tb,kb,hW,hLl,q2,q3,e1,gb])
     refine b9 0 (vals0:=[.aY 8 0 1 0 0,.agg (b.map iV),.agg (x.map iV)]) (by simp[ca,eS,bp]) (by simp[eY,lj,nt]) Rr rfl (ba _ _ r2.2) C3 ?_;exact AN rfl (fun S'=>⟨h2,rfl⟩)
    |some r3=>
     obtain⟨u3,l3⟩:=tZ u2.g om (ib.app om) (hxM.app om) om hr3;have m3:=u3.l;simp only[Option.bind_some,hr3]at h2;rw[hr3]at C3;have C4:=t104 u3.g (f:=r3.1) om;cases hr4:gY r3.2 r3.1 with
     |none=>
      simp only[Option.bind_some,hr4,Option.bind_none]at h2;rw[hr4]at C4;refine cv 9 rfl ?_;simp only[vq,seval,bp,tx,tb,kb,hW,hLl,q2,q3,e1,gb]
      repeat(refine dC rfl rfl ?_;simp only[vq,seval,bp,tx,tb,kb,hW,hLl,q2,q3,e1,gb])
      refine bF 0 (vals0:=[.aY 8 0 1 0 0,.agg (b.map iV),.agg (x.map iV)]) (v0:=iV r3.1) (es':=bl r3.2) (by simp[ca,eS,bp]) (by simp[eY,lj,nt]) Rr rfl (ba _ _ r2.2) (ba _ _ r3.2) rfl C3 ?_
      repeat(refine dC rfl rfl ?_;simp only[vq,seval,bp,tx,tb,kb,hW,hLl,q2,q3,e1,gb])
      refine b9 0 (vals0:=[.aY 8 0 1 0 0,iV r3.1]) (by simp[ca,eS,bp]) (by simp[eY,lj,nt]) Rr rfl (ba _ _ r3.2) C4 ?_;exact AN rfl (fun S'=>⟨h2,rfl⟩)
     |some r4=>
      obtain⟨u4,l4⟩:=kl u3.g (f:=r3.1) om hr4;have m4:=u4.l;simp only[Option.bind_some,hr4]at h2;rw[hr4]at C4;refine dj ?_;refine bW ?_;simp only[vq,seval,bp,tx,tb,kb,hW,hLl,q2,q3,e1,gb]
      repeat(refine cc rfl rfl ?_;simp only[vq,seval,bp,tx,tb,kb,hW,hLl,q2,q3,e1,gb])
      refine bF 0 (vals0:=[.aY 8 0 1 0 0,.agg (b.map iV),.agg (x.map iV)]) (v0:=iV r3.1) (es':=bl r3.2) (by simp[ca,eS,bp]) (by simp[eY,lj,nt]) Rr rfl (ba _ _ r2.2) (ba _ _ r3.2) rfl C3 ?_
      repeat(refine cc rfl rfl ?_;simp only[vq,seval,bp,tx,tb,kb,hW,hLl,q2,q3,e1,gb])
      refine bF 0 (vals0:=[.aY 8 0 1 0 0,iV r3.1]) (v0:=iV r4.1) (es':=bl r4.2) (by simp[ca,eS,bp]) (by simp[eY,lj,nt]) Rr rfl (ba _ _ r3.2) (ba _ _ r4.2) rfl C4 ?_
      repeat(refine cc rfl rfl ?_;simp only[vq,seval,bp,tx,tb,kb,hW,hLl,q2,q3,e1,gb])
      have C5:=t162 u4.g (f:=r2.1) (g:=r4.1) om om;cases hr5:gF r4.2 r2.1 r4.1 with
      |none=>
       simp only[Option.bind_some,hr5,Option.bind_none,Option.map_none]at h2;rw[hr5]at C5
       skip
       refine cr 5 rfl ?_;simp only[vq,seval,bp];refine b9 0 (vals0:=[.aY 8 0 1 0 0,iV r2.1,iV r4.1]) rfl rfl Rr rfl (ba _ _ r4.2) C5 ?_
       first|exact⟨h2,rfl⟩|(simp only[vq,seval];exact⟨h2,rfl⟩)
      |some r5=>
       obtain⟨u5,l5⟩:=jA u4.g (f:=r2.1) (g:=r4.1) om om hr5;have m5:=u5.l;simp only[Option.bind_some,hr5]at h2;rw[hr5]at C5;have C6:=t100 u5.g (f:=t) (g:=r5.1) om om;cases hr6:qz r5.2 t r5.1 with
       |none=>
        simp only[Option.bind_some,hr6,Option.bind_none,Option.map_none]at h2;rw[hr6]at C6
        skip
        refine cr 6 rfl ?_;simp only[vq,seval,bp];refine bF 0 (vals0:=[.aY 8 0 1 0 0,iV r2.1,iV r4.1]) (v0:=iV r5.1) (es':=bl r5.2) rfl rfl Rr rfl (ba _ _ r4.2) (ba _ _ r5.2) rfl C5 ?_;simp only[vq,seval,bp];refine b9 0 (vals0:=[.aY 8 0 1 0 0,iV t,iV r5.1]) rfl rfl Rr rfl (ba _ _ r5.2) C6 ?_
        first|exact⟨h2,rfl⟩|(simp only[vq,seval];exact⟨h2,rfl⟩)
       |some r6=>
        obtain⟨u6,l6⟩:=pR u5.g (f:=t) (g:=r5.1) om om hr6;have m6:=u6.l;simp only[Option.bind_some,hr6]at h2;rw[hr6]at C6;refine cI ?_;simp only[vq,seval,bp];refine bF 0 (vals0:=[.aY 8 0 1 0 0,iV r2.1,iV r4.1]) (v0:=iV r5.1) (es':=bl r5.2) rfl rfl Rr rfl (ba _ _ r4.2) (ba _ _ r5.2) rfl C5 ?_;simp only[vq,seval,bp];refine bF 0 (vals0:=[.aY 8 0 1 0 0,iV t,iV r5.1]) (v0:=iV r6.1) (es':=bl r6.2) rfl rfl Rr rfl (ba _ _ r5.2) (ba _ _ r6.2) rfl C6 ?_;simp only[vq,seval,bp];refine bL (i+2,r6.1,r6.2) (by simp only;omega) (bk rfl ?_) ⟨by simp only;omega,h2,u6.g,by simp only;omega,l6⟩;simp only[vq,seval];rw[a8 om om]
        try trivial
 ·simp only[ak]at hc;have e0:oy x (l.drop i) t M=some (t,M):=by
   have hle:(l.drop i).length<=1:=by rw[List.length_drop];omega
   match h:l.drop i,hle with
   |[],_=>rw[oy];intro _ _ _ h;cases h
   |[_],_=>rw[oy];intro _ _ _ h;cases h
  rw[e0]at h2;simp only[vq,seval];rw[Cz];simp only[vq,seval,qu,yX];exact⟨t,M,h2,rfl,rfl⟩
end
section
variable[BE][NB]
def Hm(x:Vr)(v:Int)(N:Gr):Option (List Nat×Gr):=if x.m=0 then some (dS x.v.toNat,N)else(vd v.toNat x.w.toNat N).map fun r=>(r.1++List.replicate (16-x.w.toNat) 0,r.2)
theorem K8{N:Gr}{l:Nat}{r:Nat×Gr}(G:ct N)(hl:l<NB.nb)(h:nz N l=some r):vA N r.2/\r.1<r.2.length:=by obtain⟨h1,h2⟩:=kB (CP G hl) h;exact⟨h1,h2.l⟩
theorem t102{N:Gr}(G:ct N){nm:B}{i:Nat}{x:Vr}{v:Int}(hlk:dL (.int .i64 0) (BT (Dg BE.p.vars)) nm=.int .i64 i)(hx:BE.p.vars[i]? =some x)(hv:BE.lv[i]? =some v)(hw:1<=x.w/\x.w<=8)(hxv:0<=x.v/\x.v<=65535)(hlv:x.m≠0->0<=v/\v+x.w<=NB.nb):ff 102 [.aY 8 0 1 0 0,.d (.str nm)] N (vW (Hm x v N)):=by
 have hmL:=dx;have hnb:=NB.le;have hvl:BE.p.vars.length=BE.p.vars.length:=rfl;obtain⟨nm',w,m,c⟩:=x;dsimp only at hw hxv hlv;have hil:=(ad.1 hx).1;have hll:=(ad.1 hv).1;unfold Hm;dsimp only;refine gb cc102 (AC.at AC.pn [1,1,1,1,1,0,1,2,2,1,1,0,2,1] ac102) rfl ?_;simp only[vq,seval,ac102,AC.at,y7];rw[hlk];refine⟨rfl,?_⟩;simp only[vq,seval,cz];refine⟨om,om,bg hx ?_⟩;simp only[vq,seval];simp only[vq,seval,Vr.d];by_cases hm:m=0
 ·rw[if_pos hm];simp only[vq,seval,dt hm];obtain⟨n,rfl⟩:=Int.eq_ofNat_of_zero_le hxv.1;rw[Int.toNat_natCast];refine aW rfl (t101 n om) ?_;have ln:=dy (hV n);simp only[vq,seval,ln];refine⟨cb _,?_⟩;exact cG (h:=1) om (hV n) rfl rfl (by first|rfl|simp[hV])
 rw[if_neg hm];simp only[vq,seval,df hm];obtain⟨v0,v1⟩:=hlv hm;obtain⟨vn,rfl⟩:=Int.eq_ofNat_of_zero_le v0;obtain⟨wn,rfl⟩:=Int.eq_ofNat_of_zero_le (show 0<=w by omega);rw[Int.toNat_natCast,Int.toNat_natCast];refine bb (fun t:Nat×List Nat×Gr=>⟨cC 61 [(0,.aY 8 0 1 0 0),(4,.aY 16 1 1 0 0),(5,.d (.int .i64 i)),(6,.aY 4 2 1 0 0),(7,.aY 16 3 1 0 0),(30,.d (.int .i64 wn)),(31,.d (.int .i64 t.1))],[.live 8 (bl t.2.2),jJ (List.replicate 16 0),.live 4 [[.d (.str nm'),.d (.int .i64 wn),.d (.int .i64 m),.d (.int .i64 c)]],jJ (t.2.1++List.replicate (16-t.1) 0)]⟩) (fun t=>t.1<=wn/\t.2.1.length=t.1/\vd vn wn N=(vd vn (wn-t.1) t.2.2).map (fun s=>(t.2.1++s.1,s.2))/\ct t.2.2/\N.length<=t.2.2.length/\cU t.2.2 t.2.1) (fun t=>wn-t.1) (0,[],N) (bk (by first|rfl|simp) vt) ⟨om,rfl,sm,G,aq _,fun f hf=>by cases hf⟩ ?_;rintro⟨k,o,M⟩ ⟨h1,h0,h2,h3,h4,h5⟩;dsimp only at h1 h0 h2 h3 h4 h5;simp only[vq,seval];refine aZ (fun hc=>?_) (fun hc=>?_)
 ·simp only[aj]at hc;have hL:(o++List.replicate (16-k) 0).length=16:=by simp;omega
  have hset:∀v,(o++List.replicate (16-k) 0).set k v=(o++[v])++List.replicate (16-(k+1)) 0:=fun v=>by rw[show 16-k=(16-(k+1))+1 by omega,List.replicate_succ,dA _ _ _ _ h0];simp
  generalize o++List.replicate (16-k) 0=L at hL hset|-;obtain⟨q0,q1,q2⟩:=qj (i:=k) om;have e1:IntKind.i64.wrap ((vn:Int)+(wn:Int))=((vn+wn:Nat):Int):=by rw[a8 om om];omega
  have e2:IntKind.i64.wrap (((vn+wn:Nat):Int)-1)=((vn+wn-1:Nat):Int):=by rw[a8 om om];omega
  have e3:IntKind.i64.wrap (((vn+wn-1:Nat):Int)-(k:Int))=((vn+(wn-(k+1)):Nat):Int):=by rw[a8 om om];omega
  rw[show wn-k=(wn-(k+1))+1 by omega,vd]at h2;have C0:=t158 h3 (l:=vn+(wn-(k+1))) om;have C1:=t156 M (nz M (vn+(wn-(k+1))));have f0:((0:Int)<=(i:Nat))=True:=eq_true om;have f1:(((i:Nat):Int)<(BE.lv.length:Int))=True:=eq_true om;have hlb:vn+(wn-(k+1))<NB.nb:=om;simp only[vq,seval,y7];generalize vn+(wn-(k+1))=lv at h2 C0 C1 e3 hlb;cases hr1:nz M lv with
  |none=>
   simp only[hr1,Option.bind_none,Option.map_none]at h2;rw[hr1]at C0 C1;rw[h2];refine cv 23 rfl ?_;simp only[vq,seval,q0,q1,q2,e1,e2,e3,iD,cQ]
   repeat(refine dC rfl rfl ?_;simp only[vq,seval,q0,q1,q2,e1,e2,e3,iD,cQ])
   refine⟨om,om,sd hv ?_⟩;simp only[vq,seval,q0,q1,q2,e1,e2,e3,iD,cQ]
   repeat(refine dC rfl rfl ?_;simp only[vq,seval,q0,q1,q2,e1,e2,e3,iD,cQ])
   refine aW nh C0 ?_
   repeat(refine dC rfl rfl ?_;simp only[vq,seval,q0,q1,q2,e1,e2,e3,iD,cQ])
   refine b9 0 (vals0:=[.aY 8 0 1 0 0,.agg [.d .bm],.d (.int .i64 0),.d (.int .i64 2)]) rfl rfl Rr rfl (ba _ _ M) C1 ?_;exact fq
  |some r1=>
   obtain⟨u1,l1⟩:=K8 h3 om hr1;have m1:=u1.l;simp only[hr1,Option.bind_some]at h2;rw[hr1]at C0 C1;refine dj ?_;refine bW ?_;simp only[vq,seval,q0,q1,q2,e1,e2,e3,iD,cQ]
   repeat(refine cc rfl rfl ?_;simp only[vq,seval,q0,q1,q2,e1,e2,e3,iD,cQ])
   refine⟨om,om,sd hv ?_⟩;simp only[vq,seval,q0,q1,q2,e1,e2,e3,iD,cQ]
   repeat(refine cc rfl rfl ?_;simp only[vq,seval,q0,q1,q2,e1,e2,e3,iD,cQ])
   refine aW nh C0 ?_
   repeat(refine cc rfl rfl ?_;simp only[vq,seval,q0,q1,q2,e1,e2,e3,iD,cQ])
   refine bF 0 (vals0:=[.aY 8 0 1 0 0,.agg [.d (dg r1.2)],.d (.int .i64 r1.1),.d (.int .i64 0)]) (v0:=iV r1.1) (es':=bl r1.2) rfl rfl Rr rfl (ba _ _ M) (ba _ _ r1.2) rfl C1 ?_
   repeat(refine cc rfl rfl ?_;simp only[vq,seval,q0,q1,q2,e1,e2,e3,iD,cQ,bp])
   rw[kf om,hset];refine bL (k+1,o++[r1.1],r1.2) (by simp only;omega) (bk rfl ?_) ⟨by simp only;omega,by simp[h0],by simp only;rw[h2];simp[Option.map_map,Function.comp_def],u1.g,by simp only;omega,(h5.app m1).cat fun f hf=>by simp at hf;subst hf;exact l1⟩;simp only[vq,seval];rw[a8 om om]
   try trivial
 ·simp only[ak]at hc;obtain rfl:k=wn:=om;rw[Nat.sub_self,vd]at h2;simp only[Option.map_some,List.append_nil]at h2;rw[h2];have hP:(o++List.replicate (16-k) 0).length=16:=by simp;omega
  simp only[Option.map_some];generalize o++List.replicate (16-k) 0=P at hP|-;simp only[vq,seval];rw[fm hP,xQ hP rfl];exact⟨dy hP,cb _,cG (h:=1) om hP rfl rfl rfl⟩
end
section
variable[BE][NB]
theorem ES{op:Int}{N:Gr}{x y:List Nat}(G:ct N)(hx:x.length=16)(hy:y.length=16)(hxN:cU N x)(hyN:cU N y)(ho:7<=op/\op<=21){r:List Nat×Gr}(h:ko op x y N=some r):vA N r.2/\r.1.length=16/\cU r.2 r.1:=by obtain⟨h1,h2,h3⟩:=kB (Et G hx hy hxN.hw hyN.hw ho) h;exact⟨h1,h2,h3.l⟩
theorem t112{N:Gr}(G:ct N)(op:Int)(ho:7<=op/\op<=21){x y:List Nat}(hx:x.length=16)(hy:y.length=16)(hxN:cU N x)(hyN:cU N y):ff 112 [.aY 8 0 1 0 0,.d (.int .i64 op),.agg (x.map iV),.agg (y.map iV)] N (vW (ko op x y N)):=by
 have h2N:=G.two;have tx:=fm hx;have ty:=fm hy;obtain⟨D,h2⟩:∃D,ko op x y N=D:=⟨_,rfl⟩;have L:∀r,D=some r->r.1.length=16:=fun r h=>(ES G hx hy hxN hyN ho (h2.trans h)).2.1;rw[h2];rw[ko]at h2;refine gb cc112 (AC.at AC.pn [1,1,0] (AC.at AC.pn [1,0,1,2,1,1,1,1,1,1,1,1,1,1,1,1,1,1,1,1,1,0,0] (AC.at AC.pn [1,0,1,2,1,1,1,1,1,1,1,1,1,1,1,1,1,1,1,0,0] (AC.at AC.pn [1,0,1,2,1,1,1,1,1,1,1,1,1,1,1,1,1,0,0] (AC.at AC.pn [1,0,1,2,1,1,1,1,1,1,1,1,1,1,1,0,0] (AC.at AC.pn [1,0,1,2,1,1,1,1,1,1,1,1,1,0,0] (AC.at AC.pn [1,0,1,2,1,1,1,1,1,1,1,0,0] (AC.at AC.pn [1,0,1,2,1,1,1,1,1,0,0] (AC.at AC.pn [1,0,1,2,1,1,1,0,0] (AC.at AC.pn [1,0,1,2,1,0,0] ac112)))))))))) rfl ?_;simp only[vq,seval,ac112,AC.at];refine⟨hx,cb _,hy,cb _,?_⟩;by_cases e7:op=7
 ·rw[if_pos e7]at h2;simp only[vq,seval,dt e7];have C:=t160 G hx hy hxN hyN (c:=0) om;rw[h2]at C;cases D with
  |none=>refine cr 3 rfl ?_;simp only[vq,seval,bp,tx,ty];refine b9 0 (vals0:=[.aY 8 0 1 0 0,.agg (x.map iV),.agg (y.map iV),iV 0]) (by simp[cJ,iB,cY,fP]) gW Rr rfl (ba _ _ N) C ?_;exact fq
  |some r=>have lr:=L r rfl;have hlr:=dy lr;refine cI ?_;simp only[vq,seval,bp,tx,ty];refine bF 0 (vals0:=[.aY 8 0 1 0 0,.agg (x.map iV),.agg (y.map iV),iV 0]) (v0:=.agg (r.1.map iV)) (es':=bl r.2) (by simp[cJ,iB,cY,fP]) gW Rr rfl (ba _ _ N) (ba _ _ r.2) rfl C ?_;simp only[vq,seval,ca,tx,ty,hlr];refine⟨cb _,?_⟩;exact cG (h:=3) om lr rfl rfl (by first|rfl|simp)
 rw[if_neg e7]at h2;simp only[vq,seval,df e7];by_cases e8:op=8
 ·rw[if_pos e8]at h2;simp only[vq,seval,dt e8];have C:=t106 G hx hy hxN hyN;rw[h2]at C;cases D with
  |none=>refine cr 3 rfl ?_;simp only[vq,seval,bp,tx,ty];refine b9 0 (vals0:=[.aY 8 0 1 0 0,.agg (x.map iV),.agg (y.map iV)]) (by simp[cJ,iB,cY,fP]) gW Rr rfl (ba _ _ N) C ?_;exact fq
  |some r=>have lr:=L r rfl;have hlr:=dy lr;refine cI ?_;simp only[vq,seval,bp,tx,ty];refine bF 0 (vals0:=[.aY 8 0 1 0 0,.agg (x.map iV),.agg (y.map iV)]) (v0:=.agg (r.1.map iV)) (es':=bl r.2) (by simp[cJ,iB,cY,fP]) gW Rr rfl (ba _ _ N) (ba _ _ r.2) rfl C ?_;simp only[vq,seval,ca,tx,ty,hlr];refine⟨cb _,?_⟩;exact cG (h:=3) om lr rfl rfl (by first|rfl|simp)
 rw[if_neg e8]at h2;simp only[vq,seval,df e8];by_cases e9:op=9
 ·rw[if_pos e9]at h2;simp only[vq,seval,dt e9];have C:=t164 G hx hy hxN hyN;rw[h2]at C;cases D with
  |none=>refine cr 3 rfl ?_;simp only[vq,seval,bp,tx,ty];refine b9 0 (vals0:=[.aY 8 0 1 0 0,.agg (x.map iV),.agg (y.map iV)]) (by simp[cJ,iB,cY,fP]) gW Rr rfl (ba _ _ N) C ?_;exact fq
  |some r=>have lr:=L r rfl;have hlr:=dy lr;refine cI ?_;simp only[vq,seval,bp,tx,ty];refine bF 0 (vals0:=[.aY 8 0 1 0 0,.agg (x.map iV),.agg (y.map iV)]) (v0:=.agg (r.1.map iV)) (es':=bl r.2) (by simp[cJ,iB,cY,fP]) gW Rr rfl (ba _ _ N) (ba _ _ r.2) rfl C ?_;simp only[vq,seval,ca,tx,ty,hlr];refine⟨cb _,?_⟩;exact cG (h:=3) om lr rfl rfl (by first|rfl|simp)
 rw[if_neg e9]at h2;simp only[vq,seval,df e9];by_cases e10:op=10
 ·rw[if_pos e10]at h2;simp only[vq,seval,dt e10];have C:=t109 G hx hy hxN hyN 162 gF (fun g a b=>t162 g a b) (fun g a b h=>jA g a b h);rw[h2]at C;cases D with
  |none=>refine cr 4 rfl ?_;simp only[vq,seval,bp,tx,ty];refine b9 0 (vals0:=[.agg (x.map iV),.agg (y.map iV),.fn (.func 162) [.aY 8 0 1 0 0] []]) (by simp[cJ,iB,cY,fP]) gW Rr rfl (ba _ _ N) C ?_;exact fq
  |some r=>have lr:=L r rfl;have hlr:=dy lr;refine cI ?_;simp only[vq,seval,bp,tx,ty];refine bF 0 (vals0:=[.agg (x.map iV),.agg (y.map iV),.fn (.func 162) [.aY 8 0 1 0 0] []]) (v0:=.agg (r.1.map iV)) (es':=bl r.2) (by simp[cJ,iB,cY,fP]) gW Rr rfl (ba _ _ N) (ba _ _ r.2) rfl C ?_;simp only[vq,seval,ca,tx,ty,hlr];refine⟨cb _,?_⟩;exact cG (h:=3) om lr rfl rfl (by first|rfl|simp)
 rw[if_neg e10]at h2;simp only[vq,seval,df e10];by_cases e11:op=11
 ·rw[if_pos e11]at h2;simp only[vq,seval,dt e11];have C:=t109 G hx hy hxN hyN 100 qz (fun g a b=>t100 g a b) (fun g a b h=>pR g a b h);rw[h2]at C;cases D with
  |none=>refine cr 4 rfl ?_;simp only[vq,seval,bp,tx,ty];refine b9 0 (vals0:=[.agg (x.map iV),.agg (y.map iV),.fn (.func 100) [.aY 8 0 1 0 0] []]) (by simp[cJ,iB,cY,fP]) gW Rr rfl (ba _ _ N) C ?_;exact fq
  |some r=>have lr:=L r rfl;have hlr:=dy lr;refine cI ?_;simp only[vq,seval,bp,tx,ty];refine bF 0 (vals0:=[.agg (x.map iV),.agg (y.map iV),.fn (.func 100) [.aY 8 0 1 0 0] []]) (v0:=.agg (r.1.map iV)) (es':=bl r.2) (by simp[cJ,iB,cY,fP]) gW Rr rfl (ba _ _ N) (ba _ _ r.2) rfl C ?_;simp only[vq,seval,ca,tx,ty,hlr];refine⟨cb _,?_⟩;exact cG (h:=3) om lr rfl rfl (by first|rfl|simp)
 rw[if_neg e11]at h2;simp only[vq,seval,df e11];by_cases e12:op=12
 ·rw[if_pos e12]at h2;simp only[vq,seval,dt e12];have C:=t109 G hx hy hxN hyN 165 lZ (fun g a b=>t165 g a b) (fun g a b h=>su g a b h);rw[h2]at C;cases D with
  |none=>refine cr 4 rfl ?_;simp only[vq,seval,bp,tx,ty];refine b9 0 (vals0:=[.agg (x.map iV),.agg (y.map iV),.fn (.func 165) [.aY 8 0 1 0 0] []]) (by simp[cJ,iB,cY,fP]) gW Rr rfl (ba _ _ N) C ?_;exact fq
  |some r=>have lr:=L r rfl;have hlr:=dy lr;refine cI ?_;simp only[vq,seval,bp,tx,ty];refine bF 0 (vals0:=[.agg (x.map iV),.agg (y.map iV),.fn (.func 165) [.aY 8 0 1 0 0] []]) (v0:=.agg (r.1.map iV)) (es':=bl r.2) (by simp[cJ,iB,cY,fP]) gW Rr rfl (ba _ _ N) (ba _ _ r.2) rfl C ?_;simp only[vq,seval,ca,tx,ty,hlr];refine⟨cb _,?_⟩;exact cG (h:=3) om lr rfl rfl (by first|rfl|simp)
 rw[if_neg e12]at h2;simp only[vq,seval,df e12];by_cases e13:op=13
 ·rw[if_pos e13]at h2;simp only[vq,seval,dt e13];have C:=t166 G hx hy hxN hyN true;rw[h2]at C;cases D with
  |none=>refine cr 3 rfl ?_;simp only[vq,seval,bp,tx,ty];refine b9 0 (vals0:=[.aY 8 0 1 0 0,.agg (x.map iV),.agg (y.map iV),.d (.int .i64 (fP true))]) (by simp[cJ,iB,cY,fP]) gW Rr rfl (ba _ _ N) C ?_;exact fq
  |some r=>have lr:=L r rfl;have hlr:=dy lr;refine cI ?_;simp only[vq,seval,bp,tx,ty];refine bF 0 (vals0:=[.aY 8 0 1 0 0,.agg (x.map iV),.agg (y.map iV),.d (.int .i64 (fP true))]) (v0:=.agg (r.1.map iV)) (es':=bl r.2) (by simp[cJ,iB,cY,fP]) gW Rr rfl (ba _ _ N) (ba _ _ r.2) rfl C ?_;simp only[vq,seval,ca,tx,ty,hlr];refine⟨cb _,?_⟩;exact cG (h:=3) om lr rfl rfl (by first|rfl|simp)
 rw[if_neg e13]at h2;simp only[vq,seval,df e13];by_cases e14:op=14
 ·rw[if_pos e14]at h2;simp only[vq,seval,dt e14];have C:=t166 G hx hy hxN hyN false;rw[h2]at C;cases D with
  |none=>refine cr 3 rfl ?_;simp only[vq,seval,bp,tx,ty];refine b9 0 (vals0:=[.aY 8 0 1 0 0,.agg (x.map iV),.agg (y.map iV),.d (.int .i64 (fP false))]) (by simp[cJ,iB,cY,fP]) gW Rr rfl (ba _ _ N) C ?_;exact fq
  |some r=>have lr:=L r rfl;have hlr:=dy lr;refine cI ?_;simp only[vq,seval,bp,tx,ty];refine bF 0 (vals0:=[.aY 8 0 1 0 0,.agg (x.map iV),.agg (y.map iV),.d (.int .i64 (fP false))]) (v0:=.agg (r.1.map iV)) (es':=bl r.2) (by simp[cJ,iB,cY,fP]) gW Rr rfl (ba _ _ N) (ba _ _ r.2) rfl C ?_;simp only[vq,seval,ca,tx,ty,hlr];refine⟨cb _,?_⟩;exact cG (h:=3) om lr rfl rfl (by first|rfl|simp)
 rw[if_neg e14]at h2;simp only[vq,seval,df e14];by_cases e19:op=19
 ·rw[if_pos om]at h2;simp only[vq,seval,dt e19];have C:=t167 G op hx hy hxN hyN;rw[h2]at C;cases D with
  |none=>refine cr 4 rfl ?_;simp only[vq,seval,bp,tx,ty];refine b9 0 (vals0:=[.aY 8 0 1 0 0,.d (.int .i64 op),.agg (x.map iV),.agg (y.map iV)]) (by simp[cJ,iB,cY,fP]) gW Rr rfl (ba _ _ N) C ?_;exact fq
  |some r=>have lr:=L r rfl;have hlr:=dy lr;refine cI ?_;simp only[vq,seval,bp,tx,ty];refine bF 0 (vals0:=[.aY 8 0 1 0 0,.d (.int .i64 op),.agg (x.map iV),.agg (y.map iV)]) (v0:=.agg (r.1.map iV)) (es':=bl r.2) (by simp[cJ,iB,cY,fP]) gW Rr rfl (ba _ _ N) (ba _ _ r.2) rfl C ?_;simp only[vq,seval,ca,tx,ty,hlr];refine⟨cb _,?_⟩;exact cG (h:=3) om lr rfl rfl (by first|rfl|simp)
 simp only[vq,seval,df e19];by_cases e20:op=20
 ·rw[if_pos om]at h2;simp only[vq,seval,dt e20];have C:=t167 G op hx hy hxN hyN;rw[h2]at C;cases D with
  |none=>refine cr 4 rfl ?_;simp only[vq,seval,bp,tx,ty];refine b9 0 (vals0:=[.aY 8 0 1 0 0,.d (.int .i64 op),.agg (x.map iV),.agg (y.map iV)]) (by simp[cJ,iB,cY,fP]) gW Rr rfl (ba _ _ N) C ?_;exact fq
  |some r=>have lr:=L r rfl;have hlr:=dy lr;refine cI ?_;simp only[vq,seval,bp,tx,ty];refine bF 0 (vals0:=[.aY 8 0 1 0 0,.d (.int .i64 op),.agg (x.map iV),.agg (y.map iV)]) (v0:=.agg (r.1.map iV)) (es':=bl r.2) (by simp[cJ,iB,cY,fP]) gW Rr rfl (ba _ _ N) (ba _ _ r.2) rfl C ?_;simp only[vq,seval,ca,tx,ty,hlr];refine⟨cb _,?_⟩;exact cG (h:=3) om lr rfl rfl (by first|rfl|simp)
 simp only[vq,seval,df e20];by_cases e21:op=21
 ·rw[if_pos om]at h2;simp only[vq,seval,dt e21];have C:=t167 G op hx hy hxN hyN;rw[h2]at C;cases D with
  |none=>refine cr 4 rfl ?_;simp only[vq,seval,bp,tx,ty];refine b9 0 (vals0:=[.aY 8 0 1 0 0,.d (.int .i64 op),.agg (x.map iV),.agg (y.map iV)]) (by simp[cJ,iB,cY,fP]) gW Rr rfl (ba _ _ N) C ?_;exact fq
  |some r=>have lr:=L r rfl;have hlr:=dy lr;refine cI ?_;simp only[vq,seval,bp,tx,ty];refine bF 0 (vals0:=[.aY 8 0 1 0 0,.d (.int .i64 op),.agg (x.map iV),.agg (y.map iV)]) (v0:=.agg (r.1.map iV)) (es':=bl r.2) (by simp[cJ,iB,cY,fP]) gW Rr rfl (ba _ _ N) (ba _ _ r.2) rfl C ?_;simp only[vq,seval,ca,tx,ty,hlr];refine⟨cb _,?_⟩;exact cG (h:=3) om lr rfl rfl (by first|rfl|simp)
 simp only[vq,seval,df e21];rw[if_neg om]at h2;have C:=t168 G op hx hy hxN hyN;rw[h2]at C;cases D with
 |none=>refine cr 4 rfl ?_;simp only[vq,seval,bp,tx,ty];refine b9 0 (vals0:=[.aY 8 0 1 0 0,.d (.int .i64 op),.agg (x.map iV),.agg (y.map iV)]) (by simp[cJ,iB,cY,fP]) gW Rr rfl (ba _ _ N) C ?_;exact fq
 |some r=>have lr:=L r rfl;have hlr:=dy lr;refine cI ?_;simp only[vq,seval,bp,tx,ty];refine bF 0 (vals0:=[.aY 8 0 1 0 0,.d (.int .i64 op),.agg (x.map iV),.agg (y.map iV)]) (v0:=.agg (r.1.map iV)) (es':=bl r.2) (by simp[cJ,iB,cY,fP]) gW Rr rfl (ba _ _ N) (ba _ _ r.2) rfl C ?_;simp only[vq,seval,ca,tx,ty,hlr];refine⟨cb _,?_⟩;exact cG (h:=3) om lr rfl rfl (by first|rfl|simp)
end
end Go.Proofs.Tp
